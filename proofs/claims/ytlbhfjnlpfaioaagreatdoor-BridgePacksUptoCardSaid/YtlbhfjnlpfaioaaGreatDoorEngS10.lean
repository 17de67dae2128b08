/- The engine: a region that draws its order: what holds when some of it is done. -/
import Derived.Test.YtlbhfjnlpfaioaaGreatDoorEngS9
namespace Go.Eng
open Go
variable {P : Program}

theorem Chain.nil_eq {σ σ' : AHeap} (h : Chain σ [] σ') : σ = σ' := by
  generalize e : ([] : List Rec) = l at h
  cases h with
  | nil => rfl
  | cons t => cases e
theorem Chain.one {σ σ' : AHeap} {r : Rec} (h : Chain σ [r] σ') : r.σ' = σ' := by
  generalize e : [r] = l at h
  cases h with
  | nil => cases e
  | cons t =>
    obtain ⟨rfl, rfl⟩ := List.cons.inj e
    exact t.nil_eq
theorem Chain.head {σ σ' : AHeap} {r : Rec} {B : List Rec} (h : Chain σ (r :: B) σ') : r.σ = σ ∧ Chain r.σ' B σ' := by
  generalize e : r :: B = l at h
  cases h with
  | nil => cases e
  | cons t =>
    obtain ⟨rfl, rfl⟩ := List.cons.inj e
    exact ⟨rfl, t⟩

section
variable {G n : Nat} {ops : Array Oper} {b0 m : Nat} {t0 : Tr Value} {σ1 σN : AHeap} {recs : List Rec}

open Classical in
noncomputable def XS (b0 : Nat) (S : Nat → Prop) (B : List Rec) : AMap := fun b => if h : ∃ y, y ∈ B ∧ y.x.kd = .new ∧ b0 + y.x.nm = b ∧ S y.x.j then (Classical.choose h).blk else none

theorem XS_some {S : Nat → Prop} {B : List Rec} {b : Nat} {x : ABlk} (h : XS b0 S B b = some x) : ∃ y, y ∈ B ∧ y.x.kd = .new ∧ b0 + y.x.nm = b ∧ S y.x.j ∧ y.blk = some x := by
  unfold XS at h
  split at h
  · rename_i q
    obtain ⟨h1, h2, h3, h4⟩ := Classical.choose_spec q
    exact ⟨_, h1, h2, h3, h4, h⟩
  · cases h

theorem Setting.XS_of (H : Setting P G n ops b0 m t0 σ1 σN recs) {S : Nat → Prop} {B : List Rec} (hB : ∀ y ∈ B, y ∈ recs) {y : Rec} (hy : y ∈ B) (ky : y.x.kd = .new) (hs : S y.x.j) : XS b0 S B (b0 + y.x.nm) = y.blk := by
  unfold XS
  have q : ∃ z, z ∈ B ∧ z.x.kd = .new ∧ b0 + z.x.nm = b0 + y.x.nm ∧ S z.x.j := ⟨y, hy, ky, rfl, hs⟩
  rw [dif_pos q]
  obtain ⟨h1, h2, h3, h4⟩ := Classical.choose_spec q
  rw [H.name_inj (hB _ h1) (hB _ hy) h2 ky h3]

noncomputable def gS (b0 : Nat) (S : Nat → Prop) (B : List Rec) (σq : AHeap) : AMap := ovr (XS b0 S B) σq.get

def ES (t0 : Tr Value) (recs : List Rec) (S : Nat → Prop) (s : Nat) (v : Value) : Prop :=
  (∃ y ∈ recs, y.x.o.dst = some s ∧ S y.x.j ∧ v = y.v) ∨ ((∀ y ∈ recs, y.x.o.dst = some s → ¬ S y.x.j) ∧ fget s t0 = some v)

structure Inv (P : Program) (G n : Nat) (ops : Array Oper) (b0 m : Nat) (t0 : Tr Value) (σ1 σN : AHeap) (recs : List Rec) (n0 : Nat) (ε0 : Env) (g0 : AMap) (w0 : World) (S : Nat → Prop) (A B : List Rec) (σq : AHeap) (ε : Env) (a : Act) (w : World) : Prop where
  split : recs = A ++ B
  cA : Chain σ1 A σq
  cB : Chain σq B σN
  last : A = [] ∨ ∃ A' z, A = A' ++ [z] ∧ z.x.kd = .act ∧ S z.x.j
  inA : ∀ y ∈ A, y.x.kd = .new ∨ y.x.kd = .act → S y.x.j
  noB : ∀ y ∈ B, y.x.kd = .act → ¬ S y.x.j
  ds : ∀ y ∈ recs, S y.x.j → ∀ e ∈ y.x.o.after.toList, Region.binds .any e = true → S e.on
  free : ∀ y ∈ B, y.x.kd = .new → σq.get (b0 + y.x.nm) = none
  step : Step n0 σN.next ε0 g0 w0 ε (gS b0 S B σq) w
  size : a.tmps.size = n
  defers : a.defers = []
  slot : ∀ s v, s < 65536 → ES t0 recs S s v → ∃ cv, a.tmps[s]? = some cv ∧ Rep ε v cv
  names : ∀ y ∈ recs, y.x.kd = .new → ¬ S y.x.j → ε.m (b0 + y.x.nm) = none
  fresh : ∀ b, σq.next ≤ b → b < σN.next → ε.m b = none
  gok : GOk ε G

variable {n0 : Nat} {ε0 ε : Env} {g0 : AMap} {w0 w : World} {S : Nat → Prop} {A B : List Rec} {σq : AHeap} {a : Act}

/-- one more -/
def S1 (S : Nat → Prop) (j : Nat) : Nat → Prop := fun i => S i ∨ i = j

namespace Inv
variable (H : Setting P G n ops b0 m t0 σ1 σN recs) (I : Inv P G n ops b0 m t0 σ1 σN recs n0 ε0 g0 w0 S A B σq ε a w)
include H I

omit H in
theorem mB : ∀ y ∈ B, y ∈ recs := fun y hy => by rw [I.split]; simp [hy]
omit H in
theorem mA : ∀ y ∈ A, y ∈ recs := fun y hy => by rw [I.split]; simp [hy]

/-- the slots that an operation reads -/
theorem fr {C D : List Rec} {r : Rec} (e : recs = C ++ r :: D) (hr : ¬ S r.x.j) (hah : ∀ l ∈ r.x.ah, S l) : FR ε n r.tr a := by
  refine ⟨I.size, I.defers, fun s v hs hv => I.slot s v hs ?_⟩
  have hst := H.st C r D e
  rw [(H.all.ok C r D e).tr] at hv
  obtain ⟨h1, h2⟩ := restr_get _ _ hst.rs s v hs hv
  have hm : ∀ y ∈ C, y ∈ recs := fun y hy => by rw [e]; simp [hy]
  rcases tOf_get hs C t0 (fun y hy d hd => by
    obtain ⟨A', B', e'⟩ := List.append_of_mem (hm y hy)
    exact ((H.all.ok A' y B' e').dst d hd).2) h2 with ⟨y, hy, q1, q2⟩ | ⟨q1, q2⟩
  · exact .inl ⟨y, hm y hy, q1, hah _ (hst.slA s h1 y hy q1), q2⟩
  · refine .inr ⟨fun y hy hd hS => ?_, q2⟩
    have hy' : y ∈ C ++ r :: D := e ▸ hy
    rcases List.mem_append.1 hy' with h | h
    · exact q1 y h hd
    · cases h with
      | head => exact hr hS
      | tail _ h =>
        have h3 := hst.slB s h1 y h hd
        obtain ⟨A', B', e'⟩ := List.append_of_mem hy
        exact hr (H.aheadS I.ds A'.length A' y B' (Nat.le_refl _) e' (I.ds y hy hS) _ h3)

/-- the slots behind an operation -/
theorem put {r : Rec} (hr : r ∈ recs) {ε' : Env} (hl : ε.Le ε') {cv : Value} (hv : Rep ε' r.v cv) : (a.put r.x.o.dst cv).tmps.size = n ∧ (a.put r.x.o.dst cv).defers = [] ∧
    ∀ s v, s < 65536 → ES t0 recs (S1 S r.x.j) s v → ∃ cv', (a.put r.x.o.dst cv).tmps[s]? = some cv' ∧ Rep ε' v cv' := by
  obtain ⟨A', B', e'⟩ := List.append_of_mem hr
  have hd := (H.all.ok A' r B' e').dst
  have old : ∀ s v, s < 65536 → r.x.o.dst ≠ some s → ES t0 recs S s v → ∃ cv', (a.put r.x.o.dst cv).tmps[s]? = some cv' ∧ Rep ε' v cv' := by
    intro s v hs hne h
    obtain ⟨cu, h1, h2⟩ := I.slot s v hs h
    refine ⟨cu, ?_, h2.mono hl⟩
    cases e : r.x.o.dst with
    | none => exact h1
    | some d =>
      have : d ≠ s := fun q => hne (by rw [e, q])
      simp [Act.put, this, h1]
  refine ⟨?_, ?_, fun s v hs h => ?_⟩
  · cases r.x.o.dst <;> simp [Act.put, I.size]
  · cases r.x.o.dst <;> simp [Act.put, I.defers]
  · rcases h with ⟨y, hy, h1, h2, h3⟩ | ⟨h1, h2⟩
    · by_cases e : r.x.o.dst = some s
      · obtain rfl := H.dst_inj hy hr h1 e
        rw [e]
        have := (hd s e).1
        exact ⟨cv, by simp [Act.put, I.size, this], h3 ▸ hv⟩
      · refine old s v hs e (.inl ⟨y, hy, h1, ?_, h3⟩)
        rcases h2 with h2 | h2
        · exact h2
        · exact absurd (H.inj hy hr h2 ▸ h1) e
    · refine old s v hs (fun e => h1 r hr e (.inr rfl)) (.inr ⟨fun y hy hd hS => h1 y hy hd (.inl hS), h2⟩)

theorem ds' {r : Rec} (hr : r ∈ recs) (hready : ∀ e ∈ r.x.o.after.toList, Region.binds .any e = true → S e.on) : ∀ y ∈ recs, S1 S r.x.j y.x.j → ∀ e ∈ y.x.o.after.toList, Region.binds .any e = true → S1 S r.x.j e.on := by
  intro y hy h e h1 h2
  rcases h with h | h
  · exact .inl (I.ds y hy h e h1 h2)
  · obtain rfl := H.inj hy hr h
    exact .inl (hready e h1 h2)

/-- nothing is there by a name that is still to come -/
theorem noName {y : Rec} (hy : y ∈ B) (ky : y.x.kd = .new) (hn : ¬ S y.x.j) : gS b0 S B σq (b0 + y.x.nm) = none := by
  unfold gS
  have : XS b0 S B (b0 + y.x.nm) = none := by
    cases e : XS b0 S B (b0 + y.x.nm) with
    | none => rfl
    | some x =>
      obtain ⟨z, h1, h2, h3, h4, _⟩ := XS_some e
      rw [H.name_inj (I.mB z h1) (I.mB y hy) h2 ky h3] at h4
      exact absurd h4 hn
  rw [ovr_none this]
  exact I.free y hy ky

/-- an operation that only looks -/
theorem still {r : Rec} (hr : r ∈ recs) (hn : ¬ S r.x.j) (hready : ∀ e ∈ r.x.o.after.toList, Region.binds .any e = true → S e.on) (hk : r.x.kd = .pure ∨ r.x.kd = .read)
    {K : Act → World → Prop} {Q : Exit → Act → World → Prop} (hK : ∀ a', Inv P G n ops b0 m t0 σ1 σN recs n0 ε0 g0 w0 (S1 S r.x.j) A B σq ε a' w → K a' w) :
    if Region.wanted r.x.o (yielded ops a.tmps) then r.x.o.wp P a w K Q else K (a.put r.x.o.dst undef) w := by
  obtain ⟨C, D, e⟩ := List.append_of_mem hr
  have hah := H.aheadS I.ds C.length C r D (Nat.le_refl _) e hready
  have hfr := I.fr H e hn hah
  have hst := H.st C r D e
  have hrun := (H.all.ok C r D e).run
  have hstill : isStill r.x.o.op := by rw [isStill, ← hst.kd]; exact hk
  have hna : r.x.kd ≠ .act ∧ r.x.kd ≠ .new := by rcases hk with h | h <;> rw [h] <;> exact ⟨by decide, by decide⟩
  have fin : ∀ cv, Rep ε r.v cv → K (a.put r.x.o.dst cv) w := fun cv hv => by
    obtain ⟨p1, p2, p3⟩ := I.put H hr (.refl ε) hv
    refine hK _ ⟨I.split, I.cA, I.cB, I.last.imp id (fun ⟨A', z, q1, q2, q3⟩ => ⟨A', z, q1, q2, .inl q3⟩), fun y hy h => .inl (I.inA y hy h), fun y hy h h' => ?_, I.ds' H hr hready, I.free, ?_, p1, p2, p3, fun y hy h h' => I.names y hy h (fun q => h' (.inl q)), I.fresh, I.gok⟩
    · rcases h' with h' | h'
      · exact I.noB y hy h h'
      · exact hna.1 (H.inj (I.mB y hy) hr h' ▸ h)
    · have : gS b0 (S1 S r.x.j) B σq = gS b0 S B σq := by
        unfold gS
        congr 1
        funext b
        unfold XS
        have : (∃ y, y ∈ B ∧ y.x.kd = .new ∧ b0 + y.x.nm = b ∧ S1 S r.x.j y.x.j) = (∃ y, y ∈ B ∧ y.x.kd = .new ∧ b0 + y.x.nm = b ∧ S y.x.j) := by
          refine propext ⟨fun ⟨y, h1, h2, h3, h4⟩ => ⟨y, h1, h2, h3, ?_⟩, fun ⟨y, h1, h2, h3, h4⟩ => ⟨y, h1, h2, h3, .inl h4⟩⟩
          rcases h4 with h4 | h4
          · exact h4
          · exact absurd (H.inj (I.mB y h1) hr h4 ▸ h2) hna.2
        by_cases q : ∃ y, y ∈ B ∧ y.x.kd = .new ∧ b0 + y.x.nm = b ∧ S y.x.j
        · have q' := q
          rw [← this] at q'
          rw [dif_pos q, dif_pos q']
          obtain ⟨h1, h2, h3, h4⟩ := Classical.choose_spec q
          obtain ⟨h1', h2', h3', h4'⟩ := Classical.choose_spec q'
          rw [H.name_inj (I.mB _ h1') (I.mB _ h1) h2' h2 (h3'.trans h3.symm)]
        · have q' := q
          rw [← this] at q'
          rw [dif_neg q, dif_neg q']
      rw [this]; exact I.step
  have hemb := I.step.emb
  rcases hk with hk | hk
  · rw [hk] at hrun
    have he : Emb ε (emptyH 0).get w := hemb.sub fun b x h => by
      have : (emptyH 0).get b = none := by
        exact Tr.get_nil _
      rw [this] at h; cases h
    exact stillS_ok he hfr I.gok hstill hrun.2 fin
  · rw [hk] at hrun
    -- the heap at which it has been looked
    by_cases hmem : r ∈ A
    · rcases I.last with h | ⟨A', z, h1, h2, h3⟩
      · rw [h] at hmem; cases hmem
      · have hzr : z ∈ recs := I.mA z (by rw [h1]; simp)
        have e2 : recs = A' ++ z :: B := by rw [I.split, h1]; simp
        have hz := (H.all.ok A' z B e2).run
        rw [h2] at hz
        have hrA : r ∈ A' := by
          rw [h1] at hmem
          rcases List.mem_append.1 hmem with h | h
          · exact h
          · simp at h; rw [h] at hk; rw [hk] at h2; cases h2
        have hnah : r.x.j ∉ z.x.ah := fun q => hn (H.aheadS I.ds A'.length A' z B (Nat.le_refl _) e2 (I.ds z hzr h3) _ q)
        have hgot := hz.2.2 r hrA hk hnah
        have hσ : z.σ' = σq := by
          have := I.cA
          rw [h1] at this
          obtain ⟨σm, _, c2⟩ := Chain.split A' this
          exact c2.one
        rw [hσ] at hgot
        have he : Emb ε σq.get w := hemb.sub fun b x h => by
          have : XS b0 S B b = none := by
            cases e : XS b0 S B b with
            | none => rfl
            | some y =>
              obtain ⟨z', q1, q2, q3, _, _⟩ := XS_some e
              have := I.free z' q1 q2
              rw [q3, h] at this; cases this
          unfold gS; rw [ovr_none this]; exact h
        exact stillS_ok he hfr I.gok hstill hgot fin
    · have hB : r ∈ B := by
        rw [I.split] at hr
        exact (List.mem_append.1 hr).resolve_left hmem
      obtain ⟨B1, B2, eB⟩ := List.append_of_mem hB
      have e2 : recs = (A ++ B1) ++ r :: B2 := by rw [I.split, eB]; simp
      have hrun2 := (H.all.ok _ r B2 e2).run
      rw [hk] at hrun2
      have hst2 := H.st _ r B2 e2
      have hB1 : ∀ y ∈ B1, y.x.kd = .new ∨ y.x.kd = .act → S y.x.j := fun y hy h => hah _ (hst2.bef (.inl hk) y (by simp [hy]) h)
      have hmB1 : ∀ y ∈ B1, y ∈ B := fun y hy => by rw [eB]; simp [hy]
      have hno : ∀ y ∈ B1, y.x.kd ≠ .act := fun y hy h => I.noB y (hmB1 y hy) h (hB1 y hy (.inr h))
      have hc := I.cB
      rw [eB] at hc
      obtain ⟨σp, c1, c2⟩ := Chain.split B1 hc
      obtain ⟨p1, p2⟩ := chain_noact H.all B1 A (r :: B2) (by rw [I.split, eB]) c1 hno
      have hσ : r.σ = σp := by cases c2; rfl
      have he : Emb ε r.σ.get w := hemb.sub fun b x h => by
        rw [hσ] at h
        unfold gS
        rcases p2 b x h with ⟨y, h1, h2, h3, h4⟩ | h5
        · have := H.XS_of (S := S) (I.mB) (hmB1 y h1) h2 (hB1 y h1 (.inl h2))
          rw [h3, h4] at this
          exact ovr_some this
        · have : XS b0 S B b = none := by
            cases e : XS b0 S B b with
            | none => rfl
            | some y =>
              obtain ⟨z', q1, q2, q3, _, _⟩ := XS_some e
              have := I.free z' q1 q2
              rw [q3, h5] at this; cases this
          rw [ovr_none this]; exact h5
      exact stillS_ok he hfr I.gok hstill hrun2.2 fin
theorem gS_mono {S' : Nat → Prop} {b : Nat} {x : ABlk} (h : gS b0 S B σq b = some x) (hs : ∀ i, S i → S' i) : gS b0 S' B σq b = some x := by
  unfold gS at *
  cases e : XS b0 S B b with
  | some y =>
    rw [ovr_some e] at h
    obtain ⟨z, h1, h2, h3, h4, h5⟩ := XS_some e
    have := H.XS_of (S := S') (I.mB) h1 h2 (hs _ h4)
    rw [h3, h5] at this
    rw [ovr_some this]; exact h
  | none =>
    rw [ovr_none e] at h
    have : XS b0 S' B b = none := by
      cases e' : XS b0 S' B b with
      | none => rfl
      | some y =>
        obtain ⟨z', q1, q2, q3, _, _⟩ := XS_some e'
        have := I.free z' q1 q2
        rw [q3, h] at this; cases this
    rw [ovr_none this]; exact h

/-- an operation that makes memory -/
theorem makes {r : Rec} (hr : r ∈ recs) (hn : ¬ S r.x.j) (hready : ∀ e ∈ r.x.o.after.toList, Region.binds .any e = true → S e.on) (hk : r.x.kd = .new) (hn0 : n0 ≤ b0) (hqge : b0 + m ≤ σq.next) (hNge : b0 + m ≤ σN.next)
    {K : Act → World → Prop} {Q : Exit → Act → World → Prop} (hK : ∀ ε' a' w', Inv P G n ops b0 m t0 σ1 σN recs n0 ε0 g0 w0 (S1 S r.x.j) A B σq ε' a' w' → K a' w') :
    if Region.wanted r.x.o (yielded ops a.tmps) then r.x.o.wp P a w K Q else K (a.put r.x.o.dst undef) w := by
  obtain ⟨C, D, e⟩ := List.append_of_mem hr
  have hah := H.aheadS I.ds C.length C r D (Nat.le_refl _) e hready
  have hfr := I.fr H e hn hah
  have hrun := (H.all.ok C r D e).run
  rw [hk] at hrun
  obtain ⟨⟨σe, hs, hle, hblk⟩, hσ'⟩ := hrun
  have hnm := H.nm_lt hr hk
  have hB : r ∈ B := by
    have hr' := hr
    rw [I.split] at hr'
    exact (List.mem_append.1 hr').resolve_left fun h => hn (I.inA r h (.inl hk))
  have hemb := I.step.emb
  have hnone : ∀ b, (emptyH (b0 + r.x.nm)).get b = none := fun b => by
    exact Tr.get_nil _
  have he : Emb ε (emptyH (b0 + r.x.nm)).get w := hemb.sub fun b x h => by rw [hnone b] at h; cases h
  refine hs.2 ε a w K Q he hfr I.gok (fun b h1 h2 => ?_) fun ε' cv w' st hv => ?_
  · have h1 : b0 + r.x.nm ≤ b := h1
    have : b = b0 + r.x.nm := by omega
    rw [this]; exact I.names r hr hk hn
  · have st : Step (b0 + r.x.nm) σe.next ε (emptyH (b0 + r.x.nm)).get w ε' σe.get w' := st
    have hup := st.up
    let sing : AMap := fun b => if b = b0 + r.x.nm then r.blk else none
    have st1 : Step (b0 + r.x.nm) σe.next ε (fun _ => none) w ε' sing w' := by
      have s0 : Step (b0 + r.x.nm) σe.next ε (emptyH (b0 + r.x.nm)).get w ε' sing w' := st.trans (Step.forget σe.next st.emb fun b x h => by
        by_cases e1 : b = b0 + r.x.nm
        · rw [e1, ← hblk]; simpa [sing, e1] using h
        · simp [sing, e1] at h)
      rwa [show (emptyH (b0 + r.x.nm)).get = fun _ => none from funext hnone] at s0
    have st2 := Step.framed (gS b0 S B σq) (hemb.sub fun b x h => by
        cases e1 : gS b0 S B σq b with
        | some y => rw [ovr_some e1] at h; exact h
        | none => rw [ovr_none e1] at h; cases h) (fun _ _ _ => rfl) (fun b x h => by
        by_cases e1 : b = b0 + r.x.nm
        · rw [e1, I.noName H hB hk hn] at h; cases h
        · simp [sing, e1]) st1
    have st3 : Step n0 σN.next ε (gS b0 S B σq) w ε' (ovr (gS b0 S B σq) sing) w' := by
      have : ovr (gS b0 S B σq) (fun _ => none) = gS b0 S B σq := by
        funext b
        cases e1 : gS b0 S B σq b with
        | some y => rw [ovr_some e1]
        | none => rw [ovr_none e1]
      rw [this] at st2
      exact st2.widen (by omega) (by omega)
    have st4 : Step n0 σN.next ε0 g0 w0 ε' (gS b0 (S1 S r.x.j) B σq) w' := by
      refine (I.step.trans2 st3).trans2 ((Step.forget σN.next st3.emb fun b x h => ?_).widen (by have := st3.up; omega) (Nat.le_refl _))
      unfold gS at h
      cases e1 : XS b0 (S1 S r.x.j) B b with
      | some y =>
        rw [ovr_some e1] at h
        obtain rfl := Option.some.inj h
        obtain ⟨z, h1, h2, h3, h4, h5⟩ := XS_some e1
        rcases h4 with h4 | h4
        · have := H.XS_of (S := S) (I.mB) h1 h2 h4
          rw [h3, h5] at this
          exact ovr_some (by unfold gS; exact ovr_some this)
        · obtain rfl := H.inj (I.mB z h1) hr h4
          rw [← h3, ovr_none (I.noName H hB hk hn)]
          simp [sing, h5]
      | none =>
        rw [ovr_none e1] at h
        refine ovr_some ?_
        unfold gS
        have : XS b0 S B b = none := by
          cases e' : XS b0 S B b with
          | none => rfl
          | some y =>
            obtain ⟨z', q1, q2, q3, _, _⟩ := XS_some e'
            have := I.free z' q1 q2
            rw [q3, h] at this; cases this
        rw [ovr_none this]; exact h
    obtain ⟨p1, p2, p3⟩ := I.put H hr st.le hv
    refine hK ε' _ w' ⟨I.split, I.cA, I.cB, I.last.imp id (fun ⟨A', z, q1, q2, q3⟩ => ⟨A', z, q1, q2, .inl q3⟩), fun y hy h => .inl (I.inA y hy h), fun y hy h h' => ?_, I.ds' H hr hready, I.free, st4, p1, p2, p3, fun y hy h h' => ?_, fun b h1 h2 => ?_, I.gok.mono st.le⟩
    · rcases h' with h' | h'
      · exact I.noB y hy h h'
      · rw [H.inj (I.mB y hy) hr h', hk] at h; cases h
    · have hne : b0 + y.x.nm ≠ b0 + r.x.nm := fun q => h' (.inr (by rw [H.name_inj hy hr h hk q]))
      rw [st.new _ (by omega)]
      exact I.names y hy h (fun q => h' (.inl q))
    · rw [st.new _ (by omega)]
      exact I.fresh b h1 h2

/-- an operation that acts -/
theorem acts {r : Rec} (hr : r ∈ recs) (hn : ¬ S r.x.j) (hready : ∀ e ∈ r.x.o.after.toList, Region.binds .any e = true → S e.on) (hk : r.x.kd = .act) (hn0 : n0 ≤ b0) (hqge : b0 + m ≤ σq.next)
    {K : Act → World → Prop} {Q : Exit → Act → World → Prop} (hK : ∀ A' B' σ' ε' a' w', b0 + m ≤ σ'.next → Inv P G n ops b0 m t0 σ1 σN recs n0 ε0 g0 w0 (S1 S r.x.j) A' B' σ' ε' a' w' → K a' w') :
    if Region.wanted r.x.o (yielded ops a.tmps) then r.x.o.wp P a w K Q else K (a.put r.x.o.dst undef) w := by
  have hB : r ∈ B := by
    have hr' := hr
    rw [I.split] at hr'
    exact (List.mem_append.1 hr').resolve_left fun h => hn (I.inA r h (.inr hk))
  obtain ⟨B1, B2, eB⟩ := List.append_of_mem hB
  have e : recs = (A ++ B1) ++ r :: B2 := by rw [I.split, eB]; simp
  have hah := H.aheadS I.ds (A ++ B1).length _ r B2 (Nat.le_refl _) e hready
  have hfr := I.fr H e hn hah
  have hst := H.st _ r B2 e
  have hrun := (H.all.ok _ r B2 e).run
  rw [hk] at hrun
  obtain ⟨hs, hfree, _⟩ := hrun
  have hB1 : ∀ y ∈ B1, y.x.kd = .new ∨ y.x.kd = .act → S y.x.j := fun y hy h => hah _ (hst.bef (.inr hk) y (by simp [hy]) h)
  have hmB1 : ∀ y ∈ B1, y ∈ B := fun y hy => by rw [eB]; simp [hy]
  have hmB2 : ∀ y ∈ B2, y ∈ B := fun y hy => by rw [eB]; simp [hy]
  have hno : ∀ y ∈ B1, y.x.kd ≠ .act := fun y hy h => I.noB y (hmB1 y hy) h (hB1 y hy (.inr h))
  have hc := I.cB
  rw [eB] at hc
  obtain ⟨σp, c1, c2⟩ := Chain.split B1 hc
  obtain ⟨hσ, c3⟩ := c2.head
  obtain ⟨p1, p2⟩ := chain_noact H.all B1 A (r :: B2) (by rw [I.split, eB]) c1 hno
  rw [← hσ] at p1 p2
  have hNle : r.σ'.next ≤ σN.next := chain_next H.all B2 ((A ++ B1) ++ [r]) [] (by rw [e]; simp) c3
  have hemb := I.step.emb
  -- what has been made and is not there for this operation
  have hX : ∀ b x, XS b0 S B2 b = some x → ∃ y, y ∈ B2 ∧ y.x.kd = .new ∧ b0 + y.x.nm = b ∧ S y.x.j ∧ y.blk = some x := fun b x h => XS_some h
  have hsub : ∀ b x, ovr (XS b0 S B2) r.σ.get b = some x → gS b0 S B σq b = some x := fun b x h => by
    unfold gS
    cases e1 : XS b0 S B2 b with
    | some y =>
      rw [ovr_some e1] at h
      obtain ⟨z, h1, h2, h3, h4, h5⟩ := hX b y e1
      have := H.XS_of (S := S) (I.mB) (hmB2 z h1) h2 h4
      rw [h3, h5] at this
      rw [ovr_some this]; exact h
    | none =>
      rw [ovr_none e1] at h
      rcases p2 b x h with ⟨y, h1, h2, h3, h4⟩ | h5
      · have := H.XS_of (S := S) (I.mB) (hmB1 y h1) h2 (hB1 y h1 (.inl h2))
        rw [h3, h4] at this
        exact ovr_some this
      · have : XS b0 S B b = none := by
          cases e' : XS b0 S B b with
          | none => rfl
          | some y =>
            obtain ⟨z', q1, q2, q3, _, _⟩ := XS_some e'
            have := I.free z' q1 q2
            rw [q3, h5] at this; cases this
        rw [ovr_none this]; exact h5
  have hd : ∀ b x, XS b0 S B2 b = some x → r.σ.get b = none := fun b x h => by
    obtain ⟨y, h1, h2, h3, h4, h5⟩ := hX b x h
    cases e1 : r.σ.get b with
    | none => rfl
    | some z =>
      rcases p2 b z e1 with ⟨y', q1, q2, q3, q4⟩ | q5
      · have hy := H.name_inj (I.mB _ (hmB2 y h1)) (I.mB _ (hmB1 y' q1)) h2 q2 (h3.trans q3.symm)
        have hd2 : recs.Pairwise fun y z => y.x.j ≠ z.x.j := pairwise_of_split recs fun A r B e y hy => (H.st A r B e).fresh y hy
        rw [e] at hd2
        have := (List.pairwise_append.1 hd2).2.2 y' (by simp [q1]) y (by simp [h1])
        exact absurd (by rw [hy]) this
      · have := I.free y (hmB2 y h1) h2
        rw [h3, q5] at this; cases this
  have hd' : ∀ b x, XS b0 S B2 b = some x → r.σ'.get b = none := fun b x h => by
    obtain ⟨y, h1, h2, h3, _, _⟩ := hX b x h
    rw [← h3]; exact hfree y h1 h2
  have hembX := hemb.sub hsub
  have he : Emb ε r.σ.get w := hembX.sub fun b x h => by
    have : XS b0 S B2 b = none := by
      cases e1 : XS b0 S B2 b with
      | none => rfl
      | some y => rw [hd b y e1] at h; cases h
    rw [ovr_none this]; exact h
  refine hs.2 ε a w K Q he hfr I.gok (fun b h1 h2 => I.fresh b (by omega) (by omega)) fun ε' cv w' st hv => ?_
  have hup := st.up
  have st2 := (Step.framed (XS b0 S B2) hembX hd hd' st).widen (m := n0) (m' := σN.next) (by omega) hNle
  have st3 : Step n0 σN.next ε0 g0 w0 ε' (ovr (XS b0 S B2) r.σ'.get) w' := (I.step.trans2 ((Step.forget σN.next hemb hsub).widen (by have := st2.up; omega) (Nat.le_refl _))).trans2 st2
  have hj2 : ∀ y ∈ B2, y.x.j ≠ r.x.j := fun y hy => by
    have hd2 : recs.Pairwise fun y z => y.x.j ≠ z.x.j := pairwise_of_split recs fun A r B e y hy => (H.st A r B e).fresh y hy
    rw [e] at hd2
    exact fun q => ((List.pairwise_cons.1 (List.pairwise_append.1 hd2).2.1).1 y hy) q.symm
  have st4 : Step n0 σN.next ε0 g0 w0 ε' (gS b0 (S1 S r.x.j) B2 r.σ') w' := by
    refine st3.trans2 ((Step.forget σN.next st3.emb fun b x h => ?_).widen (by have := st2.up; omega) (Nat.le_refl _))
    unfold gS at h
    cases e1 : XS b0 (S1 S r.x.j) B2 b with
    | some y =>
      rw [ovr_some e1] at h
      obtain rfl := Option.some.inj h
      obtain ⟨z, h1, h2, h3, h4, h5⟩ := XS_some e1
      rcases h4 with h4 | h4
      · have := H.XS_of (S := S) (fun y hy => I.mB y (hmB2 y hy)) h1 h2 h4
        rw [h3, h5] at this
        exact ovr_some this
      · exact absurd h4 (hj2 z h1)
    | none =>
      rw [ovr_none e1] at h
      have : XS b0 S B2 b = none := by
        cases e' : XS b0 S B2 b with
        | none => rfl
        | some y => rw [hd' b y e'] at h; cases h
      rw [ovr_none this]; exact h
  obtain ⟨q1, q2, q3⟩ := I.put H hr st.le hv
  refine hK ((A ++ B1) ++ [r]) B2 r.σ' ε' _ w' (by omega) ⟨by rw [e]; simp, ?_, c3, .inr ⟨A ++ B1, r, rfl, hk, .inr rfl⟩, fun y hy h => ?_, fun y hy h h' => ?_, I.ds' H hr hready, hfree, st4, q1, q2, q3, fun y hy h h' => ?_, fun b h1 h2 => ?_, I.gok.mono st.le⟩
  · exact Chain.append _ (Chain.append _ I.cA c1) (hσ ▸ Chain.cons .nil)
  · simp only [List.mem_append, List.mem_singleton] at hy
    rcases hy with (hy | hy) | rfl
    · exact .inl (I.inA y hy h)
    · exact .inl (hB1 y hy h)
    · exact .inr rfl
  · rcases h' with h' | h'
    · exact I.noB y (hmB2 y hy) h h'
    · exact hj2 y hy h'
  · have := H.nm_lt hy h
    rw [st.new _ (by omega)]
    exact I.names y hy h (fun q => h' (.inl q))
  · rw [st.new _ (by omega)]
    exact I.fresh b (by omega) h2
end Inv
end
end Go.Eng
