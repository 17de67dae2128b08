/- The engine: regions that draw their order. -/
import Derived.Test.YtlbhfjnlpfaioaaGreatDoorEngS8a
namespace Go.Eng
open Go
variable {P : Program}

theorem vEq_eq : ∀ (n : Nat) (a b : Value), vEq n a b = true → a = b
  | 0, _, _, h => by cases h
  | n + 1, a, b, h => by
    have L : ∀ (l r : List Value), vEq.eqL (vEq n) l r = true → l = r := by
      intro l
      induction l with
      | nil => intro r h; cases r with
        | nil => rfl
        | cons _ _ => cases h
      | cons x l ih => intro r h; cases r with
        | nil => cases h
        | cons y r =>
          have h' : (vEq n x y && vEq.eqL (vEq n) l r) = true := h
          rw [Bool.and_eq_true] at h'
          rw [vEq_eq n x y h'.1, ih r h'.2]
    unfold vEq at h
    split at h
    · simp only [Bool.and_eq_true, decide_eq_true_eq, beq_iff_eq] at h; rw [h.1, h.2]
    · simp only [beq_iff_eq] at h; rw [h]
    · simp only [decide_eq_true_eq] at h; rw [h]
    · simp only [beq_iff_eq] at h; rw [h]
    · simp only [Bool.and_eq_true, beq_iff_eq] at h; rw [h.1.1, h.1.2, h.2]
    · simp only [beq_iff_eq] at h; rw [h]
    · simp only [beq_iff_eq] at h; rw [h]
    · rfl
    · rfl
    · rename_i t x u y
      simp only [Bool.and_eq_true, beq_iff_eq] at h
      rw [h.1, vEq_eq n x y h.2]
    · rename_i x y
      obtain ⟨x⟩ := x; obtain ⟨y⟩ := y
      have := L x y h
      rw [this]
    · rename_i x y
      obtain ⟨x⟩ := x; obtain ⟨y⟩ := y
      have := L x y h
      rw [this]
    · cases h

theorem restr_get (t : Tr Value) : ∀ (rs : List Nat), (∀ s ∈ rs, s < 65536) → ∀ s v, s < 65536 → fget s (restr t rs) = some v → s ∈ rs ∧ fget s t = some v
  | [], _, s, v, _, h => by rw [show restr t [] = .nil from rfl, fget_nil] at h; cases h
  | u :: rs, hrs, s, v, hs, h => by
    have h' : fget s (Option.rec (restr t rs) (fun v => Tr.set (pth 16 u) (some v) (restr t rs)) (fget u t) : Tr Value) = some v := h
    cases hu : fget u t with
    | none =>
      rw [hu] at h'
      obtain ⟨h1, h2⟩ := restr_get t rs (fun s hs => hrs s (.tail _ hs)) s v hs h'
      exact ⟨.tail _ h1, h2⟩
    | some x =>
      rw [hu] at h'
      have h' : fget s (Tr.set (pth 16 u) (some x) (restr t rs)) = some v := h'
      rw [fget_set hs (hrs u (.head _))] at h'
      by_cases e : s = u
      · subst e; rw [if_pos rfl] at h'; exact ⟨.head _, by rw [hu, h']⟩
      · rw [if_neg e] at h'
        obtain ⟨h1, h2⟩ := restr_get t rs (fun s hs => hrs s (.tail _ hs)) s v hs h'
        exact ⟨.tail _ h1, h2⟩

structure Rec where
  x : DI
  tr : Tr Value
  v : Value
  σ : AHeap
  σ' : AHeap
  blk : Option ABlk

noncomputable def putT (t : Tr Value) (d : Option Nat) (v : Value) : Tr Value := match d with
  | none => t
  | some d => Tr.set (pth 16 d) (some v) t
noncomputable def tOf (t0 : Tr Value) (A : List Rec) : Tr Value := A.foldl (fun t r => putT t r.x.o.dst r.v) t0
theorem tOf_snoc (t0 : Tr Value) (A : List Rec) (r : Rec) : tOf t0 (A ++ [r]) = putT (tOf t0 A) r.x.o.dst r.v := by simp [tOf]

section
variable (P : Program) (G n : Nat) (ops : Array Oper) (b0 : Nat) (t0 : Tr Value)

structure RecOk (A : List Rec) (r : Rec) (B : List Rec) : Prop where
  tr : r.tr = restr (tOf t0 A) r.x.rs
  dst : ∀ d, r.x.o.dst = some d → d < n ∧ d < 65536
  run : match r.x.kd with
    | .pure => r.σ' = r.σ ∧ stillS P G n ops.toList r.x.o r.tr (emptyH 0) = some r.v
    | .read => r.σ' = r.σ ∧ stillS P G n ops.toList r.x.o r.tr r.σ = some r.v
    | .new => (∃ σe, StepVOk P G n ops r.x.o r.tr (emptyH (b0 + r.x.nm)) r.v σe ∧ σe.next ≤ b0 + r.x.nm + 1 ∧ r.blk = σe.get (b0 + r.x.nm)) ∧ r.σ' = r.σ.set (b0 + r.x.nm) r.blk
    | .act => StepVOk P G n ops r.x.o r.tr r.σ r.v r.σ' ∧ (∀ y ∈ B, y.x.kd = .new → r.σ'.get (b0 + y.x.nm) = none) ∧
        ∀ y ∈ A, y.x.kd = .read → y.x.j ∉ r.x.ah → stillS P G n ops.toList y.x.o y.tr r.σ' = some y.v
end

inductive Chain : AHeap → List Rec → AHeap → Prop
  | nil {σ : AHeap} : Chain σ [] σ
  | cons {r : Rec} {B : List Rec} {σN : AHeap} (t : Chain r.σ' B σN) : Chain r.σ (r :: B) σN

theorem Chain.split {σN : AHeap} : ∀ (A : List Rec) {σ : AHeap} {B : List Rec}, Chain σ (A ++ B) σN → ∃ σm, Chain σ A σm ∧ Chain σm B σN
  | [], σ, B, h => ⟨σ, .nil, h⟩
  | r :: A, σ, B, h => by
    cases h with
    | cons t =>
      obtain ⟨σm, h1, h2⟩ := Chain.split A t
      exact ⟨σm, .cons h1, h2⟩
theorem Chain.append {σN σm : AHeap} : ∀ (A : List Rec) {σ : AHeap} {B : List Rec}, Chain σ A σm → Chain σm B σN → Chain σ (A ++ B) σN
  | [], _, _, .nil, h => h
  | _ :: A, _, _, .cons t, h => .cons (Chain.append A t h)

section
variable {G n : Nat} {ops : Array Oper} {b0 : Nat} {t0 : Tr Value}

theorem RecOk.next {A B : List Rec} {r : Rec} (h : RecOk P G n ops b0 t0 A r B) : r.σ.next ≤ r.σ'.next := by
  have := h.run
  split at this
  · rw [this.1]; exact Nat.le_refl _
  · rw [this.1]; exact Nat.le_refl _
  · rw [this.2]; exact Nat.le_refl _
  · exact this.1.1

/-- all that is known of the run of a whole region -/
structure All (P : Program) (G n : Nat) (ops : Array Oper) (b0 : Nat) (t0 : Tr Value) (recs : List Rec) : Prop where
  ok : ∀ A r B, recs = A ++ r :: B → RecOk P G n ops b0 t0 A r B

theorem chain_next {recs : List Rec} (hA : All P G n ops b0 t0 recs) : ∀ (B A C : List Rec) {σ σN : AHeap}, recs = A ++ (B ++ C) → Chain σ B σN → σ.next ≤ σN.next
  | [], _, _, _, _, _, .nil => Nat.le_refl _
  | r :: B, A, C, _, _, e, .cons t =>
    Nat.le_trans (hA.ok A r (B ++ C) e).next (chain_next hA B (A ++ [r]) C (by simp [e]) t)

/-- a stretch without acts: what is there was there, or was made in it -/
theorem chain_noact {recs : List Rec} (hA : All P G n ops b0 t0 recs) : ∀ (B A C : List Rec) {σ σN : AHeap}, recs = A ++ (B ++ C) → Chain σ B σN → (∀ y ∈ B, y.x.kd ≠ .act) →
    σN.next = σ.next ∧ ∀ b x, σN.get b = some x → (∃ y ∈ B, y.x.kd = .new ∧ b0 + y.x.nm = b ∧ y.blk = some x) ∨ σ.get b = some x
  | [], _, _, _, _, _, .nil, _ => ⟨rfl, fun _ _ h => .inr h⟩
  | r :: B, A, C, _, _, e, .cons t, hn => by
    obtain ⟨h1, h2⟩ := chain_noact hA B (A ++ [r]) C (by simp [e]) t (fun y hy => hn y (.tail _ hy))
    have hr := (hA.ok A r (B ++ C) e).run
    have hna := hn r (.head _)
    have hmem : r ∈ recs := by rw [e]; simp
    have lift : ∀ b x, (∃ y ∈ B, y.x.kd = .new ∧ b0 + y.x.nm = b ∧ y.blk = some x) → ∃ y ∈ r :: B, y.x.kd = .new ∧ b0 + y.x.nm = b ∧ y.blk = some x := fun b x ⟨y, hy, q⟩ => ⟨y, .tail _ hy, q⟩
    cases hk : r.x.kd with
    | pure =>
      rw [hk] at hr
      rw [hr.1] at h1 h2
      exact ⟨h1, fun b x hb => (h2 b x hb).imp (lift b x) id⟩
    | read =>
      rw [hk] at hr
      rw [hr.1] at h1 h2
      exact ⟨h1, fun b x hb => (h2 b x hb).imp (lift b x) id⟩
    | act => exact absurd hk hna
    | new =>
      rw [hk] at hr
      have e2 := hr.2
      rw [e2] at h1 h2
      refine ⟨h1, fun b x hb => ?_⟩
      rcases h2 b x hb with q | q
      · exact .inl (lift b x q)
      · rw [AHeap.get_set _ _] at q
        simp only [AMap.set] at q
        split at q
        · rename_i e3; exact .inl ⟨r, .head _, hk, e3.symm, q⟩
        · exact .inr q

theorem fget_putT {s : Nat} (hs : s < 65536) {d : Option Nat} (hd : ∀ i, d = some i → i < 65536) {v : Value} {t : Tr Value} : fget s (putT t d v) = if d = some s then some v else fget s t := by
  cases d with
  | none => simp [putT]
  | some d =>
    simp only [putT]
    rw [fget_set hs (hd d rfl)]
    by_cases e : s = d
    · simp [e]
    · rw [if_neg e, if_neg (fun e' => e (by simpa using e'.symm))]

/-- what a slot holds after a stretch -/
theorem tOf_get {s : Nat} {v : Value} (hs : s < 65536) : ∀ (A : List Rec) (t0 : Tr Value), (∀ r ∈ A, ∀ d, r.x.o.dst = some d → d < 65536) → fget s (tOf t0 A) = some v → (∃ y ∈ A, y.x.o.dst = some s ∧ v = y.v) ∨ ((∀ y ∈ A, y.x.o.dst ≠ some s) ∧ fget s t0 = some v)
  | [], t0, _, h => .inr ⟨fun _ h => by simp at h, h⟩
  | r :: A, t0, hd, h => by
    rcases tOf_get hs A (putT t0 r.x.o.dst r.v) (fun y hy => hd y (.tail _ hy)) h with ⟨y, hy, q⟩ | ⟨q1, q2⟩
    · exact .inl ⟨y, .tail _ hy, q⟩
    · rw [fget_putT hs (fun i hi => hd r (.head _) i hi)] at q2
      split at q2
      · rename_i e2
        exact .inl ⟨r, .head _, e2, (Option.some.inj q2).symm⟩
      · rename_i e2
        refine .inr ⟨fun y hy => ?_, q2⟩
        cases hy with
        | head => exact e2
        | tail _ hy => exact q1 y hy
end

/-- what is asked of the order, of the edges, of the slots -/
structure SOk (m : Nat) (ops : Array Oper) (A : List Rec) (r : Rec) (B : List Rec) : Prop where
  idx : ops[r.x.j]? = some r.x.o
  kd : r.x.kd = okind r.x.o.op
  fresh : ∀ y ∈ A, y.x.j ≠ r.x.j
  after : ∀ e ∈ r.x.o.after.toList, Region.binds .any e = true → ∃ y ∈ A, y.x.j = e.on
  ah : ∀ l ∈ r.x.ah, ∃ e ∈ r.x.o.after.toList, Region.binds .any e = true ∧ (e.on = l ∨ ∃ y ∈ A, y.x.j = e.on ∧ l ∈ y.x.ah)
  bef : r.x.kd = .read ∨ r.x.kd = .act → ∀ y ∈ A, y.x.kd = .new ∨ y.x.kd = .act → y.x.j ∈ r.x.ah
  slA : ∀ s ∈ r.x.rs, ∀ y ∈ A, y.x.o.dst = some s → y.x.j ∈ r.x.ah
  slB : ∀ s ∈ r.x.rs, ∀ y ∈ B, y.x.o.dst = some s → r.x.j ∈ y.x.ah
  rs : ∀ s ∈ r.x.rs, s < 65536
  dst : ∀ d, r.x.o.dst = some d → ∀ y ∈ A, y.x.o.dst ≠ some d
  nm : r.x.kd = .new → r.x.nm < m ∧ ∀ y ∈ A, y.x.kd = .new → y.x.nm ≠ r.x.nm

theorem pairwise_of_split {α : Type} {R : α → α → Prop} : ∀ (l : List α), (∀ A r B, l = A ++ r :: B → ∀ y ∈ A, R y r) → l.Pairwise R
  | [], _ => .nil
  | x :: l, h => by
    refine .cons (fun y hy => ?_) (pairwise_of_split l fun A r B e y hy => h (x :: A) r B (by simp [e]) y (.tail _ hy))
    obtain ⟨A, B, rfl⟩ := List.append_of_mem hy
    exact h (x :: A) y B (by simp) x (.head _)

theorem pair_eq {α : Type} {R : α → α → Prop} : ∀ {l : List α}, l.Pairwise R → ∀ {y z : α}, y ∈ l → z ∈ l → ¬ R y z → ¬ R z y → y = z
  | _, .cons h t, y, z, hy, hz, h1, h2 => by
    cases hy with
    | head => cases hz with
      | head => rfl
      | tail _ hz => exact absurd (h z hz) h1
    | tail _ hy => cases hz with
      | head => exact absurd (h y hy) h2
      | tail _ hz => exact pair_eq t hy hz h1 h2
end Go.Eng
