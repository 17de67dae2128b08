/- The engine: a region that draws its order, whichever order it is. -/
import Derived.Test.YtlbhfjnlpfaioaaGreatDoorEngS8
namespace Go.Eng
open Go
variable {P : Program}

theorem pigeon : ∀ (N : Nat) (l : List Nat), l.Nodup → (∀ x ∈ l, x < N) → l.length ≤ N
  | 0, l, _, h => by
    cases l with
    | nil => simp
    | cons x l => exact absurd (h x (.head _)) (by omega)
  | N + 1, l, hd, h => by
    by_cases q : N ∈ l
    · have h1 := pigeon N (l.erase N) (hd.erase N) (fun x hx => by
        have h2 := h x (List.mem_of_mem_erase hx)
        have h3 : x ≠ N := fun e => by
          subst e
          exact (List.Nodup.not_mem_erase hd) hx
        omega)
      rw [List.length_erase_of_mem q] at h1
      omega
    · have := pigeon N l hd (fun x hx => by
        have h2 := h x hx
        have h3 : x ≠ N := fun e => q (e ▸ hx)
        omega)
      omega

structure Setting (P : Program) (G n : Nat) (ops : Array Oper) (b0 m : Nat) (t0 : Tr Value) (σ1 σN : AHeap) (recs : List Rec) : Prop where
  all : All P G n ops b0 t0 recs
  st : ∀ A r B, recs = A ++ r :: B → SOk m ops A r B
  chain : Chain σ1 recs σN
  full : recs.length = ops.size
  free : ∀ y ∈ recs, y.x.kd = .new → σ1.get (b0 + y.x.nm) = none
  names : b0 + m = σ1.next

section
variable {G n : Nat} {ops : Array Oper} {b0 m : Nat} {t0 : Tr Value} {σ1 σN : AHeap} {recs : List Rec}

namespace Setting
variable (H : Setting P G n ops b0 m t0 σ1 σN recs)
include H

theorem inj {y z : Rec} (hy : y ∈ recs) (hz : z ∈ recs) (h : y.x.j = z.x.j) : y = z := by
  have hp : recs.Pairwise fun y z => y.x.j ≠ z.x.j := pairwise_of_split recs fun A r B e y hy => (H.st A r B e).fresh y hy
  exact pair_eq hp hy hz (fun q => q h) (fun q => q h.symm)

theorem dst_inj {y z : Rec} (hy : y ∈ recs) (hz : z ∈ recs) {d : Nat} (h : y.x.o.dst = some d) (h' : z.x.o.dst = some d) : y = z := by
  have hp : recs.Pairwise fun y z => ∀ d, z.x.o.dst = some d → y.x.o.dst ≠ some d := pairwise_of_split recs fun A r B e y hy d hd => (H.st A r B e).dst d hd y hy
  exact pair_eq hp hy hz (fun q => q d h' h) (fun q => q d h h')

theorem name_inj {y z : Rec} (hy : y ∈ recs) (hz : z ∈ recs) (ky : y.x.kd = .new) (kz : z.x.kd = .new) (h : b0 + y.x.nm = b0 + z.x.nm) : y = z := by
  have h := Nat.add_left_cancel h
  have hp : recs.Pairwise fun y z => z.x.kd = .new → y.x.kd = .new → y.x.nm ≠ z.x.nm := pairwise_of_split recs fun A r B e y hy kz ky => ((H.st A r B e).nm kz).2 y hy ky
  exact pair_eq hp hy hz (fun q => q kz ky h) (fun q => q ky kz h.symm)

theorem nm_lt {y : Rec} (hy : y ∈ recs) (ky : y.x.kd = .new) : y.x.nm < m := by
  obtain ⟨A, B, e⟩ := List.append_of_mem hy
  exact ((H.st A y B e).nm ky).1

theorem jlt {y : Rec} (hy : y ∈ recs) : y.x.j < ops.size := by
  obtain ⟨A, B, e⟩ := List.append_of_mem hy
  have := (H.st A y B e).idx
  rcases Nat.lt_or_ge y.x.j ops.size with h | h
  · exact h
  · rw [Array.getElem?_eq_none h] at this; cases this

/-- every number is somebody's -/
theorem has {i : Nat} (hi : i < ops.size) : ∃ y ∈ recs, y.x.j = i := by
  have hp : (recs.map fun y => y.x.j).Nodup := by
    rw [List.Nodup, List.pairwise_map]
    exact pairwise_of_split recs fun A r B e y hy => (H.st A r B e).fresh y hy
  have hlen : (recs.map fun y => y.x.j).length = ops.size := by simp [H.full]
  by_cases q : i ∈ recs.map fun y => y.x.j
  · obtain ⟨y, h1, h2⟩ := List.mem_map.1 q; exact ⟨y, h1, h2⟩
  · exfalso
    have hnd : (i :: recs.map fun y => y.x.j).Nodup := List.nodup_cons.2 ⟨q, hp⟩
    have := pigeon ops.size _ hnd (fun k hk => by
      cases hk with
      | head => exact hi
      | tail _ hk => obtain ⟨y, h1, rfl⟩ := List.mem_map.1 hk; exact H.jlt h1)
    rw [List.length_cons, hlen] at this
    omega

/-- what stands ahead of a ready one has been done -/
theorem aheadS {S : Nat → Prop} (hds : ∀ y ∈ recs, S y.x.j → ∀ e ∈ y.x.o.after.toList, Region.binds .any e = true → S e.on) : ∀ (k : Nat) (A : List Rec) (r : Rec) (B : List Rec), A.length ≤ k → recs = A ++ r :: B →
    (∀ e ∈ r.x.o.after.toList, Region.binds .any e = true → S e.on) → ∀ l ∈ r.x.ah, S l := by
  intro k
  induction k with
  | zero =>
    intro A r B hk e hr l hl
    obtain ⟨ed, h1, h2, h3 | ⟨y, hy, _⟩⟩ := (H.st A r B e).ah l hl
    · exact h3 ▸ hr ed h1 h2
    · have : A = [] := List.length_eq_zero_iff.1 (by omega)
      subst this; cases hy
  | succ k ih =>
    intro A r B hk e hr l hl
    obtain ⟨ed, h1, h2, h3 | ⟨y, hy, h3, h4⟩⟩ := (H.st A r B e).ah l hl
    · exact h3 ▸ hr ed h1 h2
    · obtain ⟨A1, A2, rfl⟩ := List.append_of_mem hy
      have hyS : S y.x.j := h3 ▸ hr ed h1 h2
      have hyr : y ∈ recs := by rw [e]; simp
      refine ih A1 y (A2 ++ r :: B) (by simp at hk; omega) (by simp [e]) (fun e' h5 h6 => hds y hyr hyS e' h5 h6) l h4
end Setting
end
end Go.Eng
