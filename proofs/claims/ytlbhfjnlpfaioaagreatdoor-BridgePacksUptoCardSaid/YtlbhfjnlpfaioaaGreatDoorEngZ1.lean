/- A range over a function that is left by its own end: what the caller owes, its rounds met in the iterator's own walk. -/
import Derived.Test.YtlbhfjnlpfaioaaGreatDoorEngS7
import Derived.RangeFuncNested
import Derived.RangeFuncLeaves
namespace Go.Eng
open Go Go.RowKit

variable {F : Fence} {n : Nat} {P : Program}

theorem wpIn_rangeFunc_J {g : Operand} {ps : Array Tmp} {assign body : Code} {Q : Exit → Act → World → Prop} {a : Act} {w : World}
    (hro : F.round = none) (h1 : 1 ≤ n) {gf : Nat} {lb : Array Value} (hg : a.eval g = .func (.func gf) #[] lb) (hFg : F.fn gf) (eg : ∀ args w, (callFunc gf args).run P w = .ok (.enter gf args) w)
    (h : ∀ fn, F.fn fn → ∀ (rec : LoopState → Option Code → Loop) (W1 : World),
      rec = (fun st pe => { state := st, pending := pe, fn, tmps := a.tmps, params := ps, assign, body, defers := w.heap.size }) →
      W1 = (w.alloc (.deferred (some []))).alloc (.loop (rec .ready none)) →
      CallsIn F (n - 1) P gf (#[.func (.yield (w.heap.size + 1)) #[] #[]] ++ lb) W1 fun e W2 => (∃ v, e = .returned v) ∧ W2.heap[w.heap.size + 1]? = some (.loop (rec .ready none)) ∧
        Q .normal { a with defers := { target := .collected w.heap.size, args := #[] } :: a.defers } (W2.putObj (w.heap.size + 1) (.loop (rec .exhausted none)))) :
    (Code.rangeFunc g ps assign body).wpIn F n P Q a w := by
  refine wpIn_rangeFunc ?_
  intro fn hfn
  rw [hro]
  obtain ⟨rec, hrec⟩ : ∃ rec : LoopState → Option Code → Loop, rec = fun st pe => { state := st, pending := pe, fn, tmps := a.tmps, params := ps, assign, body, defers := w.heap.size } := ⟨_, rfl⟩
  have hh := h fn hfn rec _ hrec rfl
  refine ⟨w.heap.size + 1, [{ target := .collected w.heap.size, args := #[] }], (w.alloc (.deferred (some []))).alloc (.loop (rec .ready none)), { target := .fn (.func gf) lb, args := #[.func (.yield (w.heap.size + 1)) #[] #[]] }, (w.alloc (.deferred (some []))).alloc (.loop (rec .ready none)), gf,
    #[.func (.yield (w.heap.size + 1)) #[] #[]] ++ lb, (w.alloc (.deferred (some []))).alloc (.loop (rec .ready none)), ?_, ?_, ?_, ?_, fun _ => h1, ?_⟩
  · rw [hrec]; exact run_enterLoop_outer _ _ _ _ _
  · simp only [resolve, hg]
    simp [go_sem]
  · intro f' hf'; simp [Target.leads] at hf'; subst hf'; exact hFg
  · simp [invoke, go_sem, eg]
  · refine hh.mono ?_
    rintro e W2 ⟨⟨v, rfl⟩, hl, hq⟩
    refine ⟨none, _, ?_, hq⟩
    have := run_endLoop (P := P) hl (by rw [hrec]; simp)
    rw [hrec] at this ⊢
    exact this

/-- Many new blocks of the world, one of which is named n. -/
theorem Step.later {ε : Env} {g : AMap} {w w' : World} {n : Nat} (h : Emb ε g w) (hf : ε.m n = none) (hb : Below w.heap.size w w') {gb : Nat} (h1 : w.heap.size ≤ gb) (N : Nat) (x : ABlk) (hown : x.isOwn = true)
    (hx : BlkOk (ε.upd n (some ⟨gb, 0, none⟩, N)) n w' x) :
    Step n (n + 1) ε g w (ε.upd n (some ⟨gb, 0, none⟩, N)) (g.set n (some x)) w' := by
  have hle : ε.Le (ε.upd n (some ⟨gb, 0, none⟩, N)) := Env.upd_le hf
  have hlt : ∀ b y, g b = some y → ∀ a m, ε.m b = some (some a, m) → a.block < w.heap.size := fun b y hy a m hm => (h.ok b y hy).lt hm
  refine ⟨Nat.le_succ _, hle, fun b hbn => Env.upd_other _ _ (by omega), ⟨?_, ?_⟩, hb.os, hb.tape, hb.output, hb.size, fun k hk _ => hb.block k hk, ?_, setOwn hown⟩
  · intro b y hy
    simp only [AMap.set] at hy
    split at hy
    · rename_i e; subst e; simp at hy; subst hy; exact hx
    · exact (h.ok b y hy).keep hle hb.size (fun a m hm => hb.block _ (hlt b y hy a m hm))
  · intro b b' y y' a a' m m' hne hy hy' hown hm hm'
    simp only [AMap.set] at hy hy'
    by_cases e : b = n
    · have e' : b' ≠ n := fun e' => hne (e.trans e'.symm)
      rw [if_neg e'] at hy'
      rw [Env.upd_other _ _ e'] at hm'
      have := hlt _ _ hy' _ _ hm'
      rw [e, Env.upd_self] at hm
      simp at hm
      rw [← hm.1]; simp; omega
    · rw [if_neg e] at hy
      rw [Env.upd_other _ _ e] at hm
      by_cases e' : b' = n
      · have := hlt _ _ hy _ _ hm
        rw [e', Env.upd_self] at hm'
        simp at hm'
        rw [← hm'.1]; simp; omega
      · rw [if_neg e'] at hy'
        rw [Env.upd_other _ _ e'] at hm'
        exact h.inj b b' y y' a a' m m' hne hy hy' hown hm hm'
  · rintro k ⟨b, y, a, m, hy, hown, hm, rfl⟩
    simp only [AMap.set] at hy
    by_cases e : b = n
    · rw [e, Env.upd_self] at hm; simp at hm; rw [← hm.1]; right; exact h1
    · rw [if_neg e] at hy
      rw [Env.upd_other _ _ e] at hm
      exact .inl ⟨b, y, a, m, hy, hown, hm, rfl⟩
end Go.Eng
