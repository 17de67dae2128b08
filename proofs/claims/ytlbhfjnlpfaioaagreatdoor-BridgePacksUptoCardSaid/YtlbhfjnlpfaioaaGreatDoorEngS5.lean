/- The engine: the builtins and the maps. -/
import Derived.Test.YtlbhfjnlpfaioaaGreatDoorEngS4
namespace Go.Eng
open Go
variable {P : Program}

theorem run_getObj_map' {w : World} {r : Nat} {es : Array MapEntry} {clock : Nat} (hb : w.heap[r]? = some (.map es clock)) : (getObj r).run P w = .ok (.map es clock) w := by
  simp [getObj, Sem.run, hb]

theorem lenA_ok {ε : Env} {x cx : Value} {n : Nat} (h : lenA x = some n) (hx : Rep ε x cx) : Builtin.lenOf cx = Pure.pure n := by
  unfold lenA at h
  split at h
  · obtain rfl := Option.some.inj h; cases hx; rfl
  · obtain rfl := Option.some.inj h; cases hx <;> rfl
  · obtain rfl := Option.some.inj h; cases hx; rfl
  · cases h

theorem firstMin_ok {ε : Env} {σ : AHeap} {w : World} (he : Emb ε σ.get w) {size n m : Nat} {x cx : Value} {l : List Value} (h : firstA σ size n x = some l) (hm : lenA x = some m) (hn : n ≤ m) (hx : Rep ε x cx) :
    l.length = n * size ∧ ∃ cn, RepL ε l cn ∧ (Builtin.firstCells size n cx).run P w = .ok ⟨cn⟩ w := by
  unfold firstA at h
  split at h
  · obtain rfl := Option.some.inj h
    obtain rfl := Option.some.inj (show some 0 = some m from hm)
    obtain rfl : n = 0 := by omega
    cases hx
    exact ⟨by simp, [], .nil, by simp [Builtin.firstCells]⟩
  · rename_i b off len cap
    obtain ⟨h1, h2⟩ := ifb_eq_some h
    obtain ⟨c, k, hb, h3⟩ := cellsIn_some h2
    obtain ⟨h4, rfl⟩ := sub_some h3
    have fin : ∀ (a : Addr) (m' cap' : Nat), ε.m b = some (some a, m') → ((c.drop off).take (n * size)).length = n * size ∧
        ∃ cn, RepL ε ((c.drop off).take (n * size)) cn ∧ (Builtin.firstCells size n (.slice (some ⟨a.block, a.off + off, none⟩) len cap')).run P w = .ok ⟨cn⟩ w := by
      intro a m' cap' hm
      refine ⟨by simp; omega, ?_⟩
      obtain ⟨_, hc, _⟩ := he.cells hb hm
      obtain ⟨cc, e1, e2, e3⟩ := cellsAt_list (b := a.block) (o := a.off) (s := a.spot) hc off (n * size) h4
      refine ⟨cc, e1, ?_⟩
      have := run_loadCells_list (P := P) w ⟨a.block, a.off + off, none⟩ cc (fun j v hj => e3 j v hj)
      rw [e2] at this
      simp only [Builtin.firstCells]
      exact this
    rcases hx.slice_some with ⟨a, c', hm', ⟨_, rfl⟩ | ⟨k, _, _, rfl⟩⟩ | ⟨_, rfl, _, rfl⟩
    · exact fin a _ _ hm'
    · exact fin a _ _ hm'
    · obtain rfl := Option.some.inj (show some 0 = some m from hm)
      obtain rfl : n = 0 := by omega
      exact ⟨by simp, [], by simp; exact .nil, by simp [Builtin.firstCells]⟩
  · obtain ⟨h1, h2⟩ := ifb_eq_some h
    obtain rfl := Option.some.inj h2
    have := Nat.eq_of_beq_eq_true h1
    subst this
    cases hx with
    | empty a c => cases a with
      | none => exact ⟨by simp, [], .nil, by simp [Builtin.firstCells]⟩
      | some a => exact ⟨by simp, [], .nil, by simp [Builtin.firstCells, loadCells, loadCellsFrom]⟩
  · cases h

/-- An operation that makes no names: what it says, and the step. -/
def Stays (P : Program) (ε : Env) (σ : AHeap) (w : World) (s : Sem Value) (r : AR) : Prop :=
  ∃ v, ∃ σ' : AHeap, r = .val v σ' ∧ σ'.next = σ.next ∧ ∃ w' cv, s.run P w = .ok cv w' ∧ Rep ε v cv ∧ Step σ.next σ.next ε σ.get w ε σ'.get w'

theorem cCopy_ok {ε : Env} {σ : AHeap} {w : World} (he : Emb ε σ.get w) {dt : TypeId} {ts : Array TypeId} {d s cd cs : Value} {r : AR} (h0 : ts[0]? = some dt) (h : cCopy P dt σ d s = some r) (hd : Rep ε d cd) (hs : Rep ε s cs) (ty : TypeId) :
    Stays P ε σ w (Builtin.copy_ ts ty #[cd, cs]) r := by
  unfold cCopy at h
  generalize ht : P.underlying dt = ot at h
  rcases ot with _ | td
  · cases h
  cases td <;> try (cases h; done)
  rename_i elem
  dsimp only at h
  generalize hi : P.info? elem = oi at h
  rcases oi with _ | i
  · cases h
  dsimp only at h
  unfold cpy at h
  obtain ⟨sLen, q1, q2⟩ := ob_eq_some h
  have hlen := lenA_ok q1 hs
  split at q2
  · rename_i b off dLen cap
    obtain ⟨new, q3, q4⟩ := ob_eq_some q2
    obtain ⟨c, k, hb, q5⟩ := cellsIn_some q4
    obtain ⟨q6, q7⟩ := ifb_eq_some q5
    simp only [Bool.and_eq_true] at q6
    obtain ⟨⟨hw, hl⟩, hone⟩ := q6
    have hl := hasLen_le _ _ hl
    have hone := allL_all _ _ hone
    obtain rfl := Option.some.inj q7
    obtain ⟨hnl, cn, hcn, hrun⟩ := firstMin_ok (P := P) he q3 q1 (Nat.min_le_left _ _) hs
    rcases hd.slice_some with ⟨a, c', hm, hcap⟩ | ⟨_, rfl, _, rfl⟩
    · obtain ⟨e1, e2⟩ := Step.write (P := P) he hb hw hm off hl hcn hone
      have : ∃ cap', cd = .slice (some ⟨a.block, a.off + off, none⟩) dLen cap' := by
        rcases hcap with ⟨_, rfl⟩ | ⟨_, _, _, rfl⟩ <;> exact ⟨_, rfl⟩
      obtain ⟨cap', rfl⟩ := this
      refine ⟨_, _, rfl, rfl, _, _, ?_, .int _ _, e2⟩
      simp [goInt, Builtin.copy_, h0, run_underlying ht, hlen, run_sizeOf hi, hrun, e1]
    · have hn : Nat.min sLen 0 = 0 := Nat.min_zero _
      rw [hn] at hnl hrun q3
      have : new = [] := by cases new with
        | nil => rfl
        | cons _ _ => simp at hnl
      subst this
      cases hcn
      refine ⟨_, _, rfl, rfl, w, _, ?_, .int _ _, ?_⟩
      · simp [goInt, Builtin.copy_, h0, run_underlying ht, hlen, run_sizeOf hi, hn, hrun]
      · have hg : (σ.set b (some (.cells (splice off [] c) k))).get = σ.get := by
          rw [AHeap.get_set _ _]
          funext x
          simp only [AMap.set]
          split
          · rename_i e; subst e
            rw [splice_eq _ _ _ (by simpa using hl)]
            simp [hb]
          · rfl
        rw [hg]
        exact .refl _ he
  · cases q2

theorem lenOf_ok {ε : Env} {σ : AHeap} {w : World} (he : Emb ε σ.get w) {t : TypeId} {ts : Array TypeId} {x cx v : Value} (h0 : ts[0]? = some t) (h : lenOf P t σ x = some v) (hx : Rep ε x cx) (ty : TypeId) :
    ∃ cv, (Builtin.len_ ts ty #[cx]).run P w = .ok cv w ∧ Rep ε v cv := by
  unfold lenOf at h
  generalize ht : P.underlying t = ot at h
  rcases ot with _ | td
  · cases h
  cases td <;> try (cases h; done)
  case string =>
    dsimp only at h
    split at h
    · obtain rfl := Option.some.inj h
      cases hx
      exact ⟨_, by simp [Builtin.len_, h0, run_underlying ht]; rfl, .int _ _⟩
    · cases h
  case array n e =>
    obtain rfl := Option.some.inj h
    exact ⟨_, by simp [Builtin.len_, h0, run_underlying ht]; rfl, .int _ _⟩
  case slice e =>
    dsimp only at h
    split at h
    · obtain rfl := Option.some.inj h
      cases hx
      exact ⟨_, by simp [Builtin.len_, h0, run_underlying ht]; rfl, .int _ _⟩
    · obtain rfl := Option.some.inj h
      cases hx <;> exact ⟨_, by simp [Builtin.len_, h0, run_underlying ht]; rfl, .int _ _⟩
    · cases h
  case map kt et =>
    dsimp only at h
    unfold mapOf at h
    split at h
    · obtain rfl := Option.some.inj h
      cases hx
      exact ⟨_, by simp [Builtin.len_, h0, run_underlying ht]; rfl, .int _ _⟩
    · rename_i b
      obtain ⟨es, clock, hb, h2⟩ := mapIn_some h
      obtain rfl := Option.some.inj h2
      obtain ⟨a, m, es', h3, h4, h5⟩ := he.ok _ _ hb
      cases hx with
      | map hm =>
        rw [h3] at hm
        obtain ⟨rfl, _⟩ : a = _ ∧ _ := by simpa using hm
        have hlen : es'.size = es.length := by
          have : ∀ {l : List (Value × Value × Nat)} {l' : List MapEntry}, RepE ε l l' → l'.length = l.length := by
            intro l; induction l with
            | nil => intro l' h; cases h; rfl
            | cons x l ih => intro l' h; cases h with
              | cons _ _ t => simp [ih t]
          simpa using this h5
        refine ⟨_, ?_, .int _ _⟩
        simp [Builtin.len_, h0, run_underlying ht, run_getObj_map' h4, hlen, goInt]
    · cases h

theorem capOf_ok {ε : Env} {w : World} {t : TypeId} {ts : Array TypeId} {x cx v : Value} (h0 : ts[0]? = some t) (h : capOf P t x = some v) (hx : Rep ε x cx) (ty : TypeId) :
    ∃ cv, (Builtin.cap_ ts ty #[cx]).run P w = .ok cv w ∧ Rep ε v cv := by
  unfold capOf at h
  generalize ht : P.underlying t = ot at h
  rcases ot with _ | td
  · cases h
  cases td <;> try (cases h; done)
  case array n e =>
    obtain rfl := Option.some.inj h
    exact ⟨_, by simp [Builtin.cap_, h0, run_underlying ht]; rfl, .int _ _⟩
  case slice e =>
    dsimp only at h
    split at h
    · obtain rfl := Option.some.inj h
      cases hx
      exact ⟨_, by simp [Builtin.cap_, h0, run_underlying ht]; rfl, .int _ _⟩
    · obtain ⟨h1, h2⟩ := ifb_eq_some h
      rw [Nat.blt_eq] at h1
      obtain rfl := Option.some.inj h2
      rcases hx.slice_some with ⟨a, c', hm, ⟨_, rfl⟩ | ⟨k, hk, _, rfl⟩⟩ | ⟨_, _, hk, rfl⟩
      · exact ⟨_, by simp [Builtin.cap_, h0, run_underlying ht]; rfl, .int _ _⟩
      · omega
      · omega
    · cases h

/-- the loop that makes a text of bytes -/
theorem str_loop {ε : Env} {f : Value → ByteArray → Sem (ForInStep ByteArray)} (hf : ∀ (n : Int) (s : ByteArray), f (.int .u8 n) s = pure (ForInStep.yield (s.push (UInt8.ofNat n.toNat)))) : ∀ (l cl : List Value) (r : List UInt8) (s : ByteArray), strOf l = some r → RepL ε l cl → ∀ w,
    (forIn cl s f).run P w = .ok ⟨⟨s.data.toList ++ r⟩⟩ w
  | [], _, r, s, h, .nil, w => by
    obtain rfl := Option.some.inj h
    simp
  | c :: l, _, r, s, h, .cons hc hl, w => by
    have h' : strStep c (strOf l) = some r := h
    unfold strStep at h'
    split at h'
    · rename_i n
      obtain ⟨r', h1, h2⟩ := ob_eq_some h'
      obtain rfl := Option.some.inj h2
      obtain rfl := hc.int_inv
      have ih := str_loop hf l _ r' (s.push (UInt8.ofNat n)) h1 hl w
      rw [List.forIn_cons, hf]
      have e : (Int.ofNat n).toNat = n := rfl
      rw [e]
      simp only [pure_bind]
      rw [ih]
      simp [ByteArray.push]
    · cases h'

theorem cConvH_ok {ε : Env} {σ : AHeap} {w : World} (he : Emb ε σ.get w) {s d : TypeId} {x cx v : Value} (hx : Rep ε x cx) (h : cConvH P s d σ x = some v) : ∃ cv, (convert s d cx).run P w = .ok cv w ∧ Rep ε v cv := by
  unfold cConvH at h
  generalize hs : P.underlying s = os at h
  generalize hd : P.underlying d = od at h
  rcases os with _ | ds
  · exact cConv_ok hx h w
  cases ds <;> try (exact cConv_ok hx h w)
  rename_i e
  rcases od with _ | dd
  · exact cConv_ok hx h w
  cases dd <;> try (exact cConv_ok hx h w)
  dsimp only at h
  generalize hu : P.underlying e = ou at h
  rcases ou with _ | du
  · cases h
  cases du <;> try (cases h; done)
  rename_i k
  cases k <;> try (cases h; done)
  · unfold bytesStr at h
    obtain ⟨n, h1, h⟩ := ob_eq_some h
    obtain ⟨c, h2, h⟩ := ob_eq_some h
    obtain ⟨r, h3, h⟩ := ob_eq_some h
    split at h
    · obtain rfl := Option.some.inj h
      obtain ⟨hl, cn, hcn, hrun⟩ := firstMin_ok (P := P) he h2 h1 (Nat.le_refl _) hx
      have hloop := str_loop (P := P) (ε := ε) (f := fun c s => match c with
        | .int .u8 n => pure (ForInStep.yield (s.push (UInt8.ofNat n.toNat)))
        | _ => do
          stuck "bytesToString: byte expected"
          pure (ForInStep.yield s)) (fun _ _ => rfl) c cn r ByteArray.empty h3 hcn w
      have fin : ∀ a len cap, cx = .slice a len cap → len = n → (convert s d cx).run P w = .ok (.string ⟨⟨r⟩⟩) w := by
        rintro a len cap rfl rfl
        have e1 : (convert s d (.slice a len cap)) = convert s d (.slice a len cap) := rfl
        cases a with
        | none =>
          simp [Builtin.firstCells] at hrun
          subst hrun
          cases hcn
          obtain rfl := Option.some.inj (show some [] = some r from h3)
          simp [convert, run_underlying hs, run_underlying hd, run_underlying hu, Conv.bytesToString]
          rfl
        | some a =>
          simp only [Builtin.firstCells, Nat.mul_one] at hrun
          simp only [convert, Sem.run_bind, run_underlying hs, run_underlying hd, run_underlying hu, Result.andThen_ok, Conv.bytesToString, hrun]
          rw [List.forIn_toArray]
          erw [hloop]
          simp
      have hlen := lenA_ok h1 hx
      have : ∃ a len cap, cx = .slice a len cap := by
        cases hx <;> exact ⟨_, _, _, rfl⟩
      obtain ⟨a, len, cap, e⟩ := this
      have hn : len = n := by
        rw [e] at hlen
        have : (Builtin.lenOf (.slice a len cap)).run P w = (Pure.pure n : Sem Nat).run P w := by rw [hlen]
        simpa [Builtin.lenOf] using this
      exact ⟨_, fin a len cap e hn, .string _⟩
    · cases h
end Go.Eng
