/- The engine, part B: an abstract heap lies in a world; what a piece of a run has done to it. -/
import Derived.Test.YtlbhfjnlpfaioaaGreatDoorEngA
namespace Go.Eng
open Go

inductive RepE (ε : Env) : List (Value × Value × Nat) → List MapEntry → Prop
  | nil : RepE ε [] []
  | cons {k v k' v' : Value} {n : Nat} {l : List (Value × Value × Nat)} {l' : List MapEntry} (hk : Rep ε k k') (hv : Rep ε v v') (t : RepE ε l l') : RepE ε ((k, v, n) :: l) ({ key := k', val := v', born := n } :: l')

theorem RepE.mono {ε ε' : Env} (hl : ε.Le ε') : ∀ {l : List (Value × Value × Nat)} {l' : List MapEntry}, RepE ε l l' → RepE ε' l l'
  | _, _, .nil => .nil
  | _, _, .cons h k t => .cons (h.mono hl) (k.mono hl) (RepE.mono hl t)

def cellsAt (ε : Env) (w : World) (a : Addr) (c : List Value) : Prop :=
  ∀ i v, c[i]? = some v → ∃ cv, w.cell? ⟨a.block, a.off + i, none⟩ = some cv ∧ Rep ε v cv

def KOk (k : AKind) (a : Addr) (n : Nat) (c : List Value) (w : World) : Prop :=
  match k with
  | .ro => True
  | .own => ∀ i, i < c.length → w.frozen? ⟨a.block, a.off + i, none⟩ = false
  | .grow es => c.length ≤ n * es ∧ ∀ i, i < n * es → (w.cell? ⟨a.block, a.off + i, none⟩).isSome = true ∧ w.frozen? ⟨a.block, a.off + i, none⟩ = false

def BlkOk (ε : Env) (b : Nat) (w : World) : ABlk → Prop
  | .cells c k => (∃ es, k = .grow es ∧ c = [] ∧ ε.m b = some (none, 0)) ∨ ∃ a n, ε.m b = some (some a, n) ∧ a.block < w.heap.size ∧ cellsAt ε w a c ∧ KOk k a n c w
  | .map es clock => ∃ a n es', ε.m b = some (some a, n) ∧ w.heap[a.block]? = some (.map es' clock) ∧ RepE ε es es'.toList

theorem cellsAt.keep {ε ε' : Env} {w w' : World} {a : Addr} {c : List Value} (hl : ε.Le ε') (hb : w'.heap[a.block]? = w.heap[a.block]?) (h : cellsAt ε w a c) : cellsAt ε' w' a c := fun i v hi => by
  obtain ⟨cv, h1, h2⟩ := h i v hi
  exact ⟨cv, by rw [World.cell?_of_block (a := ⟨a.block, a.off + i, none⟩) hb]; exact h1, h2.mono hl⟩

theorem KOk.keep {k : AKind} {a : Addr} {n : Nat} {c : List Value} {w w' : World} (hb : w'.heap[a.block]? = w.heap[a.block]?) (h : KOk k a n c w) : KOk k a n c w' := by
  cases k with
  | ro => trivial
  | own => intro i hi; rw [World.frozen?_of_block (a := ⟨a.block, a.off + i, none⟩) hb]; exact h i hi
  | grow es =>
    refine ⟨h.1, fun i hi => ?_⟩
    rw [World.cell?_of_block (a := ⟨a.block, a.off + i, none⟩) hb, World.frozen?_of_block (a := ⟨a.block, a.off + i, none⟩) hb]
    exact h.2 i hi

/-- A block stays as it was where the world's block does. -/
theorem BlkOk.keep {ε ε' : Env} {w w' : World} {b : Nat} {x : ABlk} (hl : ε.Le ε') (hs : w.heap.size ≤ w'.heap.size)
    (hb : ∀ a n, ε.m b = some (some a, n) → w'.heap[a.block]? = w.heap[a.block]?) (h : BlkOk ε b w x) : BlkOk ε' b w' x := by
  cases x with
  | cells c k =>
    rcases h with ⟨es, h1, h2, h3⟩ | ⟨a, n, h1, h2, h3, h4⟩
    · exact .inl ⟨es, h1, h2, hl.m _ _ h3⟩
    · exact .inr ⟨a, n, hl.m _ _ h1, Nat.lt_of_lt_of_le h2 hs, h3.keep hl (hb a n h1), h4.keep (hb a n h1)⟩
  | map es clock =>
    obtain ⟨a, n, es', h1, h2, h3⟩ := h
    exact ⟨a, n, es', hl.m _ _ h1, by rw [hb a n h1]; exact h2, h3.mono hl⟩

structure Emb (ε : Env) (g : AMap) (w : World) : Prop where
  ok : ∀ b x, g b = some x → BlkOk ε b w x
  inj : ∀ b b' x x' a a' n n', b ≠ b' → g b = some x → g b' = some x' → x.isOwn = true → ε.m b = some (some a, n) → ε.m b' = some (some a', n') → a.block ≠ a'.block

theorem BlkOk.lt {ε : Env} {b : Nat} {w : World} {x : ABlk} (h : BlkOk ε b w x) {a : Addr} {n : Nat} (hm : ε.m b = some (some a, n)) : a.block < w.heap.size := by
  cases x with
  | cells c k =>
    rcases h with ⟨es, h1, h2, h3⟩ | ⟨a', n', h1, h2, h3, h4⟩
    · rw [h3] at hm; simp at hm
    · rw [h1] at hm; simp at hm; rw [← hm.1]; exact h2
  | map es clock =>
    obtain ⟨a', n', es', h1, h2, h3⟩ := h
    rw [h1] at hm; simp at hm
    rw [← hm.1]
    rcases Nat.lt_or_ge a'.block w.heap.size with h | h
    · exact h
    · rw [Array.getElem?_eq_none h] at h2; simp at h2

/-- The world's blocks that the heap owns. -/
def Owned (ε : Env) (g : AMap) (k : Nat) : Prop := ∃ b x a n, g b = some x ∧ x.isOwn = true ∧ ε.m b = some (some a, n) ∧ a.block = k

/-- WHAT A PIECE OF A RUN HAS DONE: new names from n to n' alone; the new heap lies in the new world; of the world's old blocks only owned ones may have turned; what is owned was owned or is new. -/
structure Step (n n' : Nat) (ε : Env) (g : AMap) (w : World) (ε' : Env) (g' : AMap) (w' : World) : Prop where
  up : n ≤ n'
  le : ε.Le ε'
  new : ∀ b, ¬ (n ≤ b ∧ b < n') → ε'.m b = ε.m b
  emb : Emb ε' g' w'
  os : w'.os = w.os
  tape : w'.tape = w.tape
  output : w'.output = w.output
  size : w.heap.size ≤ w'.heap.size
  frame : ∀ k, k < w.heap.size → ¬ Owned ε g k → w'.heap[k]? = w.heap[k]?
  own : ∀ k, Owned ε' g' k → Owned ε g k ∨ w.heap.size ≤ k
  keep : ∀ b x, g' b = some x → x.isOwn = false → g b = some x

theorem Step.refl {ε : Env} {g : AMap} {w : World} (n : Nat) (h : Emb ε g w) : Step n n ε g w ε g w :=
  ⟨Nat.le_refl _, .refl _, fun _ _ => rfl, h, rfl, rfl, rfl, Nat.le_refl _, fun _ _ _ => rfl, fun _ h => .inl h, fun _ _ h _ => h⟩

theorem Step.trans {n n1 n2 : Nat} {ε ε1 ε2 : Env} {g g1 g2 : AMap} {w w1 w2 : World} (h : Step n n1 ε g w ε1 g1 w1) (k : Step n1 n2 ε1 g1 w1 ε2 g2 w2) : Step n n2 ε g w ε2 g2 w2 where
  up := Nat.le_trans h.up k.up
  le := h.le.trans k.le
  new b hb := by
    have h1 := h.up; have h2 := k.up
    rw [k.new b (by omega), h.new b (by omega)]
  emb := k.emb
  os := k.os.trans h.os
  tape := k.tape.trans h.tape
  output := k.output.trans h.output
  size := Nat.le_trans h.size k.size
  frame i hi hn := by
    rw [k.frame i (Nat.lt_of_lt_of_le hi h.size) (fun ho => by
      rcases h.own i ho with h1 | h1
      · exact hn h1
      · omega)]
    exact h.frame i hi hn
  own i hi := by
    rcases k.own i hi with h1 | h1
    · exact h.own i h1
    · exact .inr (Nat.le_trans h.size h1)
  keep b x hb hx := h.keep b x (k.keep b x hb hx) hx

/-- The heap in the world, the world's heap being the same. -/
theorem Emb.sameHeap {ε : Env} {g : AMap} {w w' : World} (h : Emb ε g w) (hh : w'.heap = w.heap) : Emb ε g w' :=
  ⟨fun b x hx => (h.ok b x hx).keep (.refl _) (by rw [hh]; exact Nat.le_refl _) (fun _ _ _ => by rw [hh]), h.inj⟩

theorem Step.draw {ε : Env} {g : AMap} {w : World} (n : Nat) (h : Emb ε g w) : Step n n ε g w ε g { w with drawn := w.drawn + 1 } :=
  ⟨Nat.le_refl _, .refl _, fun _ _ => rfl, h.sameHeap rfl, rfl, rfl, rfl, Nat.le_refl _, fun _ _ _ => rfl, fun _ h => .inl h, fun _ _ h _ => h⟩

def Env.upd (ε : Env) (b : Nat) (x : Option Addr × Nat) : Env := { ε with m := fun i => if i = b then some x else ε.m i }

theorem Env.upd_le {ε : Env} {b : Nat} {x : Option Addr × Nat} (h : ε.m b = none) : ε.Le (ε.upd b x) :=
  ⟨fun i y hy => by
    have : i ≠ b := fun e => by rw [e, h] at hy; simp at hy
    simp [Env.upd, this, hy], rfl⟩

theorem Env.upd_self (ε : Env) (b : Nat) (x : Option Addr × Nat) : (ε.upd b x).m b = some x := by simp [Env.upd]
theorem Env.upd_other (ε : Env) {b i : Nat} (x : Option Addr × Nat) (h : i ≠ b) : (ε.upd b x).m i = ε.m i := by simp [Env.upd, h]

theorem setOwn {g : AMap} {n : Nat} {x : ABlk} (hx : x.isOwn = true) : ∀ b y, AMap.set g n (some x) b = some y → y.isOwn = false → g b = some y := by
  intro b y h hy
  simp only [AMap.set] at h
  split at h
  · simp at h; subst h; rw [hx] at hy; cases hy
  · exact h

/-- A new block of the world, named n. 'x': what stands for it. -/
theorem Step.new_block {ε : Env} {g : AMap} {w : World} {n : Nat} (h : Emb ε g w) (hf : ε.m n = none) (o : Obj) (N : Nat) (x : ABlk) (hown : x.isOwn = true)
    (hx : BlkOk (ε.upd n (some ⟨w.heap.size, 0, none⟩, N)) n { w with heap := w.heap.push o } x) :
    Step n (n + 1) ε g w (ε.upd n (some ⟨w.heap.size, 0, none⟩, N)) (g.set n (some x)) { w with heap := w.heap.push o } := by
  have hold : ∀ k, k < w.heap.size → (w.heap.push o)[k]? = w.heap[k]? := fun k hk => by rw [Array.getElem?_push, if_neg (by omega)]
  have hle : ε.Le (ε.upd n (some ⟨w.heap.size, 0, none⟩, N)) := Env.upd_le hf
  have hb : ∀ b y, g b = some y → ∀ a m, ε.m b = some (some a, m) → a.block < w.heap.size := fun b y hy a m hm => (h.ok b y hy).lt hm
  refine ⟨Nat.le_succ _, hle, fun b hbn => Env.upd_other _ _ (by omega), ⟨?_, ?_⟩, rfl, rfl, rfl, by simp, fun k hk _ => hold k hk, ?_, setOwn hown⟩
  · intro b y hy
    simp only [AMap.set] at hy
    split at hy
    · rename_i e; subst e; simp at hy; subst hy; exact hx
    · exact (h.ok b y hy).keep hle (by simp) (fun a m hm => hold _ (hb b y hy a m hm))
  · intro b b' y y' a a' m m' hne hy hy' hown hm hm'
    simp only [AMap.set] at hy hy'
    by_cases e : b = n
    · have e' : b' ≠ n := fun e' => hne (e.trans e'.symm)
      rw [if_neg e'] at hy'
      rw [Env.upd_other _ _ e'] at hm'
      have := hb _ _ hy' _ _ hm'
      rw [e, Env.upd_self] at hm
      simp at hm
      rw [← hm.1]; simp; omega
    · rw [if_neg e] at hy
      rw [Env.upd_other _ _ e] at hm
      by_cases e' : b' = n
      · have := hb _ _ hy _ _ hm
        rw [e', Env.upd_self] at hm'
        simp at hm'
        rw [← hm'.1]; simp; omega
      · rw [if_neg e'] at hy'
        rw [Env.upd_other _ _ e'] at hm'
        exact h.inj b b' y y' a a' m m' hne hy hy' hown hm hm'
  · rintro k ⟨b, y, a, m, hy, hown, hm, rfl⟩
    simp only [AMap.set] at hy
    by_cases e : b = n
    · rw [e, Env.upd_self] at hm; simp at hm; rw [← hm.1]; right; exact Nat.le_refl _
    · rw [if_neg e] at hy
      rw [Env.upd_other _ _ e] at hm
      exact .inl ⟨b, y, a, m, hy, hown, hm, rfl⟩

theorem cellsAt_new {ε : Env} {w : World} {t : TypeId} {c cc : List Value} (h : RepL ε c (cc.take c.length)) :
    cellsAt ε { w with heap := w.heap.push (.cells ⟨cc⟩ t) } ⟨w.heap.size, 0, none⟩ c := by
  intro i v hi
  obtain ⟨cv, h1, h2⟩ := h.get hi
  refine ⟨cv, ?_, h2⟩
  have hlt : i < c.length := by
    rcases Nat.lt_or_ge i c.length with h | h
    · exact h
    · rw [List.getElem?_eq_none h] at hi; simp at hi
  rw [List.getElem?_take, if_pos hlt] at h1
  simp [World.cell?, h1]

/-- A new variable, or a new array of which the length is its room. -/
theorem Step.alloc {ε : Env} {g : AMap} {w : World} {n : Nat} (h : Emb ε g w) (hf : ε.m n = none) (t : TypeId) {c cc : List Value} (hc : RepL ε c cc) :
    Step n (n + 1) ε g w (ε.upd n (some ⟨w.heap.size, 0, none⟩, 0)) (g.set n (some (.cells c .own))) { w with heap := w.heap.push (.cells ⟨cc⟩ t) } := by
  refine Step.new_block h hf _ 0 _ rfl (.inr ⟨_, 0, Env.upd_self _ _ _, by simp, ?_, ?_⟩)
  · refine cellsAt_new ?_
    rw [show cc.take c.length = cc by rw [← hc.length]; simp]
    exact hc.mono (Env.upd_le hf)
  · intro i _
    simp [World.frozen?]

/-- A new array with more room than is known. -/
theorem Step.alloc_grow {ε : Env} {g : AMap} {w : World} {n : Nat} (h : Emb ε g w) (hf : ε.m n = none) (t : TypeId) (es N : Nat) {c cc : List Value} (hc : RepL ε c (cc.take c.length)) (hN : c.length ≤ N * es) (hcc : N * es ≤ cc.length) :
    Step n (n + 1) ε g w (ε.upd n (some ⟨w.heap.size, 0, none⟩, N)) (g.set n (some (.cells c (.grow es)))) { w with heap := w.heap.push (.cells ⟨cc⟩ t) } := by
  refine Step.new_block h hf _ N _ rfl (.inr ⟨_, N, Env.upd_self _ _ _, by simp, ?_, hN, ?_⟩)
  · exact cellsAt_new (hc.mono (Env.upd_le hf))
  · intro i hi
    have : i < cc.length := by omega
    simp [World.cell?, World.frozen?, this]

/-- A name for no memory: a list that may grow, of no room yet. -/
theorem Step.virt {ε : Env} {g : AMap} {w : World} {n : Nat} (h : Emb ε g w) (hf : ε.m n = none) (es : Nat) :
    Step n (n + 1) ε g w (ε.upd n (none, 0)) (g.set n (some (.cells [] (.grow es)))) w := by
  have hle : ε.Le (ε.upd n (none, 0)) := Env.upd_le hf
  refine ⟨Nat.le_succ _, hle, fun b hbn => Env.upd_other _ _ (by omega), ⟨?_, ?_⟩, rfl, rfl, rfl, Nat.le_refl _, fun _ _ _ => rfl, ?_, setOwn rfl⟩
  · intro b y hy
    simp only [AMap.set] at hy
    split at hy
    · rename_i e; subst e; simp at hy; subst hy; exact .inl ⟨es, rfl, rfl, Env.upd_self _ _ _⟩
    · exact (h.ok b y hy).keep hle (Nat.le_refl _) (fun _ _ _ => rfl)
  · intro b b' y y' a a' m m' hne hy hy' hown hm hm'
    simp only [AMap.set] at hy hy'
    by_cases e : b = n
    · rw [e, Env.upd_self] at hm; simp at hm
    · by_cases e' : b' = n
      · rw [e', Env.upd_self] at hm'; simp at hm'
      · rw [if_neg e] at hy; rw [if_neg e'] at hy'
        rw [Env.upd_other _ _ e] at hm; rw [Env.upd_other _ _ e'] at hm'
        exact h.inj b b' y y' a a' m m' hne hy hy' hown hm hm'
  · rintro k ⟨b, y, a, m, hy, hown, hm, rfl⟩
    simp only [AMap.set] at hy
    by_cases e : b = n
    · rw [e, Env.upd_self] at hm; simp at hm
    · rw [if_neg e] at hy; rw [Env.upd_other _ _ e] at hm
      exact .inl ⟨b, y, a, m, hy, hown, hm, rfl⟩

/-- ONE OWNED BLOCK TURNS, AND MAY GO BY A NEW NAME. In the world only its block has turned. 'b': its old name, 'b'': its new one (or the same), 'x'': what stands for it now. -/
theorem Step.turn {ε : Env} {g : AMap} {w w' : World} {b : Nat} {x x' : ABlk} {a : Addr} {m : Nat} (n : Nat) (h : Emb ε g w) (hx : g b = some x) (ho : x.isOwn = true) (hm : ε.m b = some (some a, m))
    (hos : w'.os = w.os) (htape : w'.tape = w.tape) (hout : w'.output = w.output) (hsz : w'.heap.size = w.heap.size) (hk : ∀ k, k ≠ a.block → w'.heap[k]? = w.heap[k]?) (hx' : BlkOk ε b w' x') (ho' : x'.isOwn = true) :
    Step n n ε g w ε (g.set b (some x')) w' := by
  refine ⟨Nat.le_refl _, .refl _, fun _ _ => rfl, ⟨?_, ?_⟩, hos, htape, hout, by omega, ?_, ?_, setOwn ho'⟩
  · intro c y hy
    simp only [AMap.set] at hy
    split at hy
    · rename_i e; subst e; simp at hy; subst hy; exact hx'
    · rename_i e
      refine (h.ok c y hy).keep (.refl _) (by omega) (fun a' m' hm' => hk _ ?_)
      exact fun e' => h.inj b c x y a a' m m' (fun e'' => e e''.symm) hx hy ho hm hm' e'.symm
  · intro c c' y y' d d' k k' hne hy hy' hown hm1 hm2
    simp only [AMap.set] at hy hy'
    by_cases e : c = b
    · subst e
      rw [if_neg (fun e' => hne e'.symm)] at hy'
      exact h.inj c c' x y' d d' k k' hne hx hy' ho hm1 hm2
    · rw [if_neg e] at hy
      by_cases e' : c' = b
      · subst e'
        have := h.inj c' c x y d' d k' k (fun e'' => hne e''.symm) hx hy ho hm2 hm1
        exact fun e'' => this e''.symm
      · rw [if_neg e'] at hy'
        exact h.inj c c' y y' d d' k k' hne hy hy' hown hm1 hm2
  · intro k hlt hno
    exact hk k (fun e => hno ⟨b, x, a, m, hx, ho, hm, e.symm⟩)
  · rintro k ⟨c, y, d, k', hy, hown, hm1, rfl⟩
    simp only [AMap.set] at hy
    by_cases e : c = b
    · subst e; exact .inl ⟨c, x, d, k', hx, ho, hm1, rfl⟩
    · rw [if_neg e] at hy; exact .inl ⟨c, y, d, k', hy, hown, hm1, rfl⟩

/-- Names are let go. -/
theorem Step.forget {ε : Env} {g g' : AMap} {w : World} (n : Nat) (h : Emb ε g w) (hg : ∀ b x, g' b = some x → g b = some x) : Step n n ε g w ε g' w :=
  ⟨Nat.le_refl _, .refl _, fun _ _ => rfl, ⟨fun b x hx => h.ok b x (hg b x hx), fun b b' x x' a a' m m' hne hx hx' => h.inj b b' x x' a a' m m' hne (hg _ _ hx) (hg _ _ hx')⟩, rfl, rfl, rfl, Nat.le_refl _, fun _ _ _ => rfl,
    fun _ ⟨b, x, a, m, hx, ho, hm, e⟩ => .inl ⟨b, x, a, m, hg _ _ hx, ho, hm, e⟩, fun b x h _ => hg b x h⟩

/-- A block goes by a new name, at a place within it. -/
theorem Step.rename {ε : Env} {g : AMap} {w : World} {b n : Nat} {x x' : ABlk} {a : Addr} {m o m' : Nat} (h : Emb ε g w) (hf : ε.m n = none) (hx : g b = some x) (ho : x.isOwn = true) (hm : ε.m b = some (some a, m)) (hbn : b ≠ n)
    (hx' : BlkOk (ε.upd n (some ⟨a.block, a.off + o, none⟩, m')) n w x') (ho' : x'.isOwn = true) :
    Step n (n + 1) ε g w (ε.upd n (some ⟨a.block, a.off + o, none⟩, m')) ((g.set b none).set n (some x')) w := by
  have hle : ε.Le (ε.upd n (some ⟨a.block, a.off + o, none⟩, m')) := Env.upd_le hf
  refine ⟨Nat.le_succ _, hle, fun b hbn => Env.upd_other _ _ (by omega), ⟨?_, ?_⟩, rfl, rfl, rfl, Nat.le_refl _, fun _ _ _ => rfl, ?_, fun c y hy hyo => ?_⟩
  · intro c y hy
    simp only [AMap.set] at hy
    split at hy
    · rename_i e; subst e; simp at hy; subst hy; exact hx'
    · split at hy
      · simp at hy
      · exact (h.ok c y hy).keep hle (Nat.le_refl _) (fun _ _ _ => rfl)
  · intro c c' y y' d d' k k' hne hy hy' hown hm1 hm2
    simp only [AMap.set] at hy hy'
    by_cases e : c = n
    · have e' : c' ≠ n := fun e' => hne (e.trans e'.symm)
      rw [if_neg e'] at hy'
      by_cases e2 : c' = b
      · rw [if_pos e2] at hy'; simp at hy'
      · rw [if_neg e2] at hy'
        rw [e, Env.upd_self] at hm1; simp at hm1
        rw [Env.upd_other _ _ e'] at hm2
        have := h.inj b c' x y' a d' m k' (fun q => e2 q.symm) hx hy' ho hm hm2
        rw [← hm1.1]; exact this
    · rw [if_neg e] at hy
      rw [Env.upd_other _ _ e] at hm1
      by_cases e2 : c = b
      · rw [if_pos e2] at hy; simp at hy
      · rw [if_neg e2] at hy
        by_cases e' : c' = n
        · rw [e', Env.upd_self] at hm2; simp at hm2
          have := h.inj b c x y a d m k (fun q => e2 q.symm) hx hy ho hm hm1
          rw [← hm2.1]; exact fun q => this q.symm
        · rw [if_neg e'] at hy'
          rw [Env.upd_other _ _ e'] at hm2
          by_cases e3 : c' = b
          · rw [if_pos e3] at hy'; simp at hy'
          · rw [if_neg e3] at hy'
            exact h.inj c c' y y' d d' k k' hne hy hy' hown hm1 hm2
  · rintro k ⟨c, y, d, k', hy, hown, hm1, rfl⟩
    simp only [AMap.set] at hy
    by_cases e : c = n
    · rw [e, Env.upd_self] at hm1; simp at hm1
      exact .inl ⟨b, x, a, m, hx, ho, hm, by rw [← hm1.1]⟩
    · rw [if_neg e] at hy
      rw [Env.upd_other _ _ e] at hm1
      by_cases e2 : c = b
      · rw [if_pos e2] at hy; simp at hy
      · rw [if_neg e2] at hy
        exact .inl ⟨c, y, d, k', hy, hown, hm1, rfl⟩
  · have := setOwn ho' c y hy hyo
    simp only [AMap.set] at this
    split at this
    · cases this
    · exact this

/-- one map over another -/
def ovr (X g : AMap) : AMap := fun b => match X b with
  | some x => some x
  | none => g b
theorem ovr_some {X g : AMap} {b : Nat} {x : ABlk} (h : X b = some x) : ovr X g b = some x := by simp [ovr, h]
theorem ovr_none {X g : AMap} {b : Nat} (h : X b = none) : ovr X g b = g b := by simp [ovr, h]

theorem BlkOk.named {ε : Env} {b : Nat} {w : World} {x : ABlk} (h : BlkOk ε b w x) : ∃ y, ε.m b = some y := by
  cases x with
  | cells c k =>
    rcases h with ⟨es, h1, h2, h3⟩ | ⟨a, n, h1, _⟩
    · exact ⟨_, h3⟩
    · exact ⟨_, h1⟩
  | map es clock =>
    obtain ⟨a, n, es', h1, _⟩ := h
    exact ⟨_, h1⟩

/-- A step beside other blocks. -/
theorem Step.framed {n n1 : Nat} {ε ε1 : Env} {g g1 : AMap} {w w1 : World} (X : AMap) (hX : Emb ε (ovr X g) w) (hd : ∀ b x, X b = some x → g b = none) (hd' : ∀ b x, X b = some x → g1 b = none) (h : Step n n1 ε g w ε1 g1 w1) :
    Step n n1 ε (ovr X g) w ε1 (ovr X g1) w1 := by
  have hm : ∀ b x, X b = some x → ε1.m b = ε.m b := fun b x hb => by
    obtain ⟨y, hy⟩ := (hX.ok b x (ovr_some hb)).named
    rw [hy]; exact h.le.m _ _ hy
  have hXn : ∀ b x, g b = some x → X b = none := fun b x hb => by
    cases e : X b with
    | none => rfl
    | some y => rw [hd b y e] at hb; cases hb
  have hXn' : ∀ b x, g1 b = some x → X b = none := fun b x hb => by
    cases e : X b with
    | none => rfl
    | some y => rw [hd' b y e] at hb; cases hb
  have old : ∀ k, Owned ε g k → Owned ε (ovr X g) k := fun k ⟨b, x, a, m, hb, ho, hm', e⟩ => ⟨b, x, a, m, by rw [ovr_none (hXn b x hb)]; exact hb, ho, hm', e⟩
  have lt : ∀ b x a m, X b = some x → ε.m b = some (some a, m) → a.block < w.heap.size := fun b x a m hb hm' => (hX.ok b x (ovr_some hb)).lt hm'
  have apart : ∀ b x a m, X b = some x → ε.m b = some (some a, m) → ¬ Owned ε g a.block := by
    rintro b x a m hb hm' ⟨b', x', a', m', hb', ho', hm'', e⟩
    have hne : b' ≠ b := fun e => by rw [e, hd b x hb] at hb'; cases hb'
    exact hX.inj b' b x' x a' a m' m hne (by rw [ovr_none (hXn _ _ hb')]; exact hb') (ovr_some hb) ho' hm'' hm' e
  refine ⟨h.up, h.le, h.new, ⟨?_, ?_⟩, h.os, h.tape, h.output, h.size, fun k hk hn => h.frame k hk (fun ho => hn (old k ho)), ?_, ?_⟩
  · intro b x hb
    cases e : X b with
    | none => rw [ovr_none e] at hb; exact h.emb.ok b x hb
    | some y =>
      rw [ovr_some e] at hb
      obtain rfl := Option.some.inj hb
      exact (hX.ok b y (ovr_some e)).keep h.le h.size fun a m hm' => h.frame _ (lt b y a m e hm') (apart b y a m e hm')
  · intro b b' x x' a a' m m' hne hb hb' ho ha ha'
    cases e : X b with
    | some y =>
      rw [ovr_some e] at hb; obtain rfl := Option.some.inj hb
      rw [hm b y e] at ha
      cases e' : X b' with
      | some y' =>
        rw [ovr_some e'] at hb'; obtain rfl := Option.some.inj hb'
        rw [hm b' y' e'] at ha'
        exact hX.inj b b' y y' a a' m m' hne (ovr_some e) (ovr_some e') ho ha ha'
      | none =>
        rw [ovr_none e'] at hb'
        cases hx' : x'.isOwn with
        | true =>
          rcases h.own a'.block ⟨b', x', a', m', hb', hx', ha', rfl⟩ with q | q
          · exact fun e2 => apart b y a m e ha (e2 ▸ q)
          · have := lt b y a m e ha; omega
        | false =>
          have q := h.keep b' x' hb' hx'
          obtain ⟨z, hz⟩ := (hX.ok b' x' (by rw [ovr_none e']; exact q)).named
          have := h.le.m _ _ hz
          rw [ha'] at this
          obtain rfl := Option.some.inj this
          exact hX.inj b b' y x' a a' m m' hne (ovr_some e) (by rw [ovr_none e']; exact q) ho ha hz
    | none =>
      rw [ovr_none e] at hb
      cases e' : X b' with
      | some y' =>
        rw [ovr_some e'] at hb'; obtain rfl := Option.some.inj hb'
        rw [hm b' y' e'] at ha'
        rcases h.own a.block ⟨b, x, a, m, hb, ho, ha, rfl⟩ with q | q
        · exact fun e2 => apart b' y' a' m' e' ha' (e2 ▸ q)
        · have := lt b' y' a' m' e' ha'; omega
      | none =>
        rw [ovr_none e'] at hb'
        exact h.emb.inj b b' x x' a a' m m' hne hb hb' ho ha ha'
  · rintro k ⟨b, x, a, m, hb, ho, ha, rfl⟩
    cases e : X b with
    | some y =>
      rw [hm b y e] at ha
      rw [ovr_some e] at hb; obtain rfl := Option.some.inj hb
      exact .inl ⟨b, y, a, m, ovr_some e, ho, ha, rfl⟩
    | none =>
      rw [ovr_none e] at hb
      exact (h.own _ ⟨b, x, a, m, hb, ho, ha, rfl⟩).imp (old _) id
  · intro b x hb hx
    cases e : X b with
    | some y => rw [ovr_some e] at hb ⊢; exact hb
    | none => rw [ovr_none e] at hb ⊢; exact h.keep b x hb hx

theorem Emb.sub {ε : Env} {g g' : AMap} {w : World} (h : Emb ε g w) (hg : ∀ b x, g' b = some x → g b = some x) : Emb ε g' w := (Step.forget 0 h hg).emb

theorem Step.widen {n n' m m' : Nat} {ε ε' : Env} {g g' : AMap} {w w' : World} (h : Step n n' ε g w ε' g' w') (h1 : m ≤ n) (h2 : n' ≤ m') : Step m m' ε g w ε' g' w' :=
  ⟨by have := h.up; omega, h.le, fun b hb => h.new b (by omega), h.emb, h.os, h.tape, h.output, h.size, h.frame, h.own, h.keep⟩

theorem Step.trans2 {n n' : Nat} {ε ε1 ε2 : Env} {g g1 g2 : AMap} {w w1 w2 : World} (h : Step n n' ε g w ε1 g1 w1) (k : Step n n' ε1 g1 w1 ε2 g2 w2) : Step n n' ε g w ε2 g2 w2 :=
  ⟨h.up, h.le.trans k.le, fun b hb => by rw [k.new b hb, h.new b hb], k.emb, k.os.trans h.os, k.tape.trans h.tape, k.output.trans h.output, Nat.le_trans h.size k.size,
    fun i hi hn => by
      rw [k.frame i (Nat.lt_of_lt_of_le hi h.size) (fun ho => by
        rcases h.own i ho with h1 | h1
        · exact hn h1
        · omega)]
      exact h.frame i hi hn,
    fun i hi => by
      rcases k.own i hi with h1 | h1
      · exact h.own i h1
      · exact .inr (Nat.le_trans h.size h1),
    fun b x hb hx => h.keep b x (k.keep b x hb hx) hx⟩
end Go.Eng
