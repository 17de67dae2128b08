/- The engine: slices; append; copy. -/
import Derived.Test.YtlbhfjnlpfaioaaGreatDoorEngS3
namespace Go.Eng
open Go
variable {P : Program}

theorem aBound_ok {ε : Env} {y : Nat} {v cv : Value} {n : Nat} (h : aBound y v = some n) (hv : Rep ε v cv) : n ≤ y ∧ ∃ k, cv = .int k (n : Int) := by
  obtain ⟨k, m, rfl, h1⟩ := nn_some h
  obtain ⟨h2, h3⟩ := ifb_eq_some h1
  obtain rfl := Option.some.inj h3
  exact ⟨Nat.le_of_ble_eq_true h2, k, hv.int_inv⟩

/-- a bound, as the model has it -/
theorem run_bound {k : IntKind} {n y : Nat} (h : n ≤ y) (code : BoundsCode) (w : World) : (Instr.sliceBound (.int k (n : Int)) y code).run P w = .ok n w := by
  have : (0 : Int) ≤ (n : Int) ∧ (n : Int) ≤ (y : Int) := by omega
  simp only [Instr.sliceBound, asIntOf, pure_bind, if_pos this]
  rfl

inductive RepO (ε : Env) : Option Value → Option Value → Prop
  | none : RepO ε none none
  | some {v cv : Value} (h : Rep ε v cv) : RepO ε (some v) (some cv)

theorem low_ok {ε : Env} {low clow : Option Value} {h l : Nat} (hl : RepO ε low clow) (h2 : aLow h low = some l) : (clow = none ∧ l = 0) ∨ ∃ k, clow = some (.int k (l : Int)) ∧ l ≤ h := by
  cases hl with
  | none => obtain rfl := Option.some.inj (show some 0 = some l from h2); exact .inl ⟨rfl, rfl⟩
  | some hv =>
    obtain ⟨b1, k, rfl⟩ := aBound_ok (show aBound h _ = some l from h2) hv
    exact .inr ⟨k, rfl, b1⟩

theorem bounds_none {ε : Env} {isS : Bool} {len cap : Nat} {low high clow chigh : Option Value} {h l : Nat} (hl : RepO ε low clow) (hh : RepO ε high chigh) (h1 : aHigh len cap high = some h) (h2 : aLow h low = some l) (w : World) :
    (Instr.sliceBounds isS len cap clow chigh none).run P w = .ok (l, h, cap) w ∧ l ≤ h ∧ h ≤ cap := by
  have hh' : (chigh = none ∧ h = len ∧ len ≤ cap) ∨ ∃ k, chigh = some (.int k (h : Int)) ∧ h ≤ cap := by
    cases hh with
    | none =>
      obtain ⟨b1, b2⟩ := ifb_eq_some (show ifb (Nat.ble len cap) (some len) none = some h from h1)
      obtain rfl := Option.some.inj b2
      exact .inl ⟨rfl, rfl, Nat.le_of_ble_eq_true b1⟩
    | some hv =>
      obtain ⟨b1, k, rfl⟩ := aBound_ok (show aBound cap _ = some h from h1) hv
      exact .inr ⟨k, rfl, b1⟩
  rcases hh' with ⟨rfl, rfl, b1⟩ | ⟨k, rfl, b1⟩ <;> rcases low_ok hl h2 with ⟨rfl, rfl⟩ | ⟨kl, rfl, b2⟩
  · exact ⟨rfl, Nat.zero_le _, b1⟩
  · exact ⟨by simp only [Instr.sliceBounds, pure_bind, Sem.run_bind, run_bound b2, Result.andThen_ok]; rfl, b2, b1⟩
  · exact ⟨by simp only [Instr.sliceBounds, pure_bind, Sem.run_bind, run_bound b1, Result.andThen_ok]; rfl, Nat.zero_le _, b1⟩
  · exact ⟨by simp only [Instr.sliceBounds, pure_bind, Sem.run_bind, run_bound b1, run_bound b2, Result.andThen_ok]; rfl, b2, b1⟩

theorem bounds_some {ε : Env} {isS : Bool} {len cap y : Nat} {low clow : Option Value} {v cv hv chv : Value} {m h l : Nat} (hy : y ≤ cap) (hl : RepO ε low clow) (hm : Rep ε v cv) (hh : Rep ε hv chv) (h0 : aBound y v = some m) (h1 : aBound m hv = some h) (h2 : aLow h low = some l) (w : World) :
    (Instr.sliceBounds isS len cap clow (some chv) (some cv)).run P w = .ok (l, h, m) w ∧ l ≤ h ∧ h ≤ m ∧ m ≤ y := by
  obtain ⟨b0, k0, rfl⟩ := aBound_ok h0 hm
  obtain ⟨b1, k1, rfl⟩ := aBound_ok h1 hh
  rcases low_ok hl h2 with ⟨rfl, rfl⟩ | ⟨kl, rfl, b2⟩
  · exact ⟨by simp only [Instr.sliceBounds, Sem.run_bind, run_bound (P := P) (Nat.le_trans b0 hy), Result.andThen_ok, run_bound b1, pure_bind]; rfl, Nat.zero_le _, b1, b0⟩
  · exact ⟨by simp only [Instr.sliceBounds, Sem.run_bind, run_bound (P := P) (Nat.le_trans b0 hy), Result.andThen_ok, run_bound b1, run_bound b2]; rfl, b2, b1, b0⟩

theorem at_ok {ε : Env} {b off l size m len cap : Nat} {a : Addr} {c : Nat} (hm : ε.m b = some (some a, c)) (hc : cap < BIG) :
    Rep ε (.slice (at_ b off l size m) len cap) (.slice (if m = l then some ⟨a.block, a.off + off, none⟩ else some ⟨a.block, a.off + off + l * size, none⟩) len cap) := by
  unfold at_
  by_cases h : m = l
  · subst h
    rw [show Nat.beq m m = true from by simp, ifb_true, if_pos rfl]
    exact .slice hc hm
  · rw [show Nat.beq m l = false from by cases hb : Nat.beq m l; rfl; exact absurd (Nat.eq_of_beq_eq_true hb) h, ifb_false, if_neg h, Nat.add_assoc]
    exact .slice hc hm

theorem known_ok {ε : Env} {σ : AHeap} {w : World} (he : Emb ε σ.get w) {b es kn : Nat} (h : known σ b es = some kn) {a : Addr} {c : Nat} (hm : ε.m b = some (some a, c)) : kn ≤ c ∧ 0 < es := by
  obtain ⟨cs, k, hb, h⟩ := cellsIn_some h
  cases k with
  | grow es' =>
    obtain ⟨h1, h2⟩ := ifb_eq_some h
    obtain rfl := Option.some.inj h2
    simp only [Bool.and_eq_true, Nat.blt_eq] at h1
    obtain ⟨h1, hp⟩ := h1
    have h1 := Nat.eq_of_beq_eq_true h1
    subst h1
    obtain ⟨_, _, hk⟩ := he.cells hb hm
    have := hk.1
    refine ⟨?_, hp⟩
    calc cs.length / es ≤ (c * es) / es := Nat.div_le_div_right this
      _ = c := Nat.mul_div_cancel c hp
  | ro => cases h
  | own => cases h

theorem cSlice_ok {ε : Env} {σ : AHeap} {w : World} (he : Emb ε σ.get w) {t : TypeId} {x cx v : Value} {lo hi mx clo chi cmx : Option Value} (h : cSlice P t σ x lo hi mx = some v) (hx : Rep ε x cx) (hlo : RepO ε lo clo) (hhi : RepO ε hi chi) (hmx : RepO ε mx cmx) :
    ∃ cv, (Instr.sliceAt t cx clo chi cmx).run P w = .ok cv w ∧ Rep ε v cv := by
  unfold cSlice at h
  generalize hd : P.underlying t = od at h
  rcases od with _ | d
  · cases h
  cases d <;> try (cases h; done)
  case array n elem =>
    dsimp only at h
    generalize hi' : P.info? elem = oi at h
    rcases oi with _ | i
    · cases h
    replace h : slArr n i.size x lo hi mx = some v := h
    unfold slArr at h
    cases hmx with
    | some _ => cases h
    | none =>
      obtain ⟨b, off, rfl, q1⟩ := pt_some h
      obtain ⟨hh, q2, q3⟩ := ob_eq_some q1
      obtain ⟨l, q4, q5⟩ := ob_eq_some q3
      obtain ⟨q6, q7⟩ := ifb_eq_some q5
      obtain rfl := Option.some.inj q7
      rw [Nat.blt_eq] at q6
      obtain ⟨a, c, hm, rfl⟩ := hx.pt_inv
      obtain ⟨r1, r2, r3⟩ := bounds_none (P := P) (isS := false) hlo hhi q2 q4 w
      refine ⟨_, ?_, at_ok hm (by omega)⟩
      simp only [Instr.sliceAt, Sem.run_bind, run_underlying hd, Result.andThen_ok, Instr.sureAddr, Sem.run_pure, r1, run_sizeOf hi', adda]
      by_cases hnl : n = l <;> simp [hnl]
  case slice elem =>
    dsimp only at h
    generalize hi' : P.info? elem = oi at h
    rcases oi with _ | i
    · cases h
    replace h : slSl i.size σ x lo hi mx = some v := h
    unfold slSl at h
    have base : ∀ (ca : Option Addr) (len cap l hh m : Nat), (Instr.sliceBounds true len cap clo chi cmx).run P w = .ok (l, hh, m) w →
        (Instr.sliceAt t (.slice ca len cap) clo chi cmx).run P w = .ok (.slice (if m = l then ca else ca.map (·.add (l * i.size))) (hh - l) (m - l)) w := by
      intro ca len cap l hh m hb
      simp only [Instr.sliceAt, Sem.run_bind, run_underlying hd, Result.andThen_ok, Instr.slice, hb, run_sizeOf hi']
      by_cases hml : m = l <;> simp [hml]
    split at h
    · -- nil
      cases hx
      unfold slNil at h
      cases hmx with
      | none =>
        obtain ⟨hh, q2, q3⟩ := ob_eq_some h
        obtain ⟨l, q4, q5⟩ := ob_eq_some q3
        obtain rfl := Option.some.inj q5
        obtain ⟨r1, r2, r3⟩ := bounds_none (P := P) (isS := true) hlo hhi q2 q4 w
        have e1 : hh = 0 := by omega
        have e2 : l = 0 := by omega
        subst e1; subst e2
        exact ⟨_, base _ _ _ _ _ _ r1, by simpa using .sliceNil⟩
      | some hmv =>
        cases hhi with
        | none => cases h
        | some hhv =>
          obtain ⟨m, q1, q2⟩ := ob_eq_some h
          obtain ⟨hh, q3, q4⟩ := ob_eq_some q2
          obtain ⟨l, q5, q6⟩ := ob_eq_some q4
          obtain rfl := Option.some.inj q6
          obtain ⟨r1, r2, r3, r4⟩ := bounds_some (P := P) (isS := true) (len := 0) (Nat.le_refl 0) hlo hmv hhv q1 q3 q5 w
          have e0 : m = 0 := by omega
          have e1 : hh = 0 := by omega
          have e2 : l = 0 := by omega
          subst e0; subst e1; subst e2
          exact ⟨_, base _ _ _ _ _ _ r1, by simpa using .sliceNil⟩
    · rename_i b off len cap
      cases hcap : Nat.blt cap BIG
      · -- a list with room that is not known
        rw [hcap, ifb_false] at h
        unfold slGrow at h
        obtain ⟨kn, q0, h⟩ := ob_eq_some h
        rcases hx.slice_some with ⟨a, c, hm, ⟨hlt, _⟩ | ⟨k, rfl, hkc, rfl⟩⟩ | ⟨hm, rfl, rfl, rfl⟩
        · rw [← Nat.blt_eq, hcap] at hlt; cases hlt
        · obtain ⟨hkn, hpos⟩ := known_ok he q0 hm
          rw [Nat.add_sub_cancel_left] at h
          cases hmx with
          | none =>
            obtain ⟨hh, q2, q3⟩ := ob_eq_some h
            obtain ⟨l, q4, q5⟩ := ob_eq_some q3
            obtain ⟨q6, q7⟩ := ifb_eq_some q5
            have q6 := Nat.le_of_ble_eq_true q6
            have q2' : aHigh len (c - k) hi = some hh := by
              cases hhi with
              | none =>
                obtain ⟨b1, b2⟩ := ifb_eq_some (show ifb (Nat.ble len (kn - k)) (some len) none = some hh from q2)
                have b1 := Nat.le_of_ble_eq_true b1
                show ifb (Nat.ble len (c - k)) (some len) none = some hh
                rw [Nat.ble_eq_true_of_le (by omega), ifb_true]; exact b2
              | some hv =>
                obtain ⟨kk, m, e1, b1⟩ := nn_some (show aBound (kn - k) _ = some hh from q2)
                obtain ⟨b2, b3⟩ := ifb_eq_some b1
                have b2 := Nat.le_of_ble_eq_true b2
                subst e1
                show ifb (Nat.ble m (c - k)) (some m) none = some hh
                rw [Nat.ble_eq_true_of_le (by omega), ifb_true]; exact b3
            obtain ⟨r1, r2, r3⟩ := bounds_none (P := P) (isS := true) hlo hhi q2' q4 w
            refine ⟨_, base _ _ _ _ _ _ r1, ?_⟩
            cases hem : (Nat.beq l hh && !(Nat.beq l 0) && !(Nat.blt (k + l) kn))
            · rw [hem, ifb_false] at q7
              obtain rfl := Option.some.inj q7
              have hne : c - k ≠ l ∨ l = 0 := by
                by_cases hl0 : l = 0
                · exact .inr hl0
                · by_cases hlh : l = hh
                  · left
                    subst hlh
                    have : Nat.blt (k + l) kn = true := by
                      cases hq : Nat.blt (k + l) kn
                      · have e0 : Nat.beq l 0 = false := by cases hz : Nat.beq l 0; rfl; exact absurd (Nat.eq_of_beq_eq_true hz) hl0
                        rw [hq, e0] at hem; simp at hem
                      · rfl
                    rw [Nat.blt_eq] at this
                    omega
                  · left; omega
              have hrep := Rep.gslice (ε := ε) (off := off + l * i.size) (len := hh - l) (k := k + l) hm (by omega)
              rw [show c - (k + l) = c - k - l by omega] at hrep
              by_cases hml : c - k = l
              · rw [if_pos hml]
                rcases hne with hne | rfl
                · exact absurd hml hne
                · simpa using hrep
              · rw [if_neg hml]
                simpa [adda, Nat.add_assoc] using hrep
            · rw [hem, ifb_true] at q7
              obtain rfl := Option.some.inj q7
              simp only [Bool.and_eq_true] at hem
              have e1 := Nat.eq_of_beq_eq_true hem.1.1
              subst e1
              rw [Nat.sub_self]
              exact .empty _ _
          | some hmv =>
            cases hhi with
            | none => cases h
            | some hhv =>
              obtain ⟨m, q1, q2⟩ := ob_eq_some h
              obtain ⟨hh, q3, q4⟩ := ob_eq_some q2
              obtain ⟨l, q5, q6⟩ := ob_eq_some q4
              obtain ⟨q7, q8⟩ := ifb_eq_some q6
              obtain rfl := Option.some.inj q8
              simp only [Bool.and_eq_true, Nat.blt_eq] at q7
              replace q7 := q7.1
              obtain ⟨r1, r2, r3, r4⟩ := bounds_some (P := P) (isS := true) (len := len) (show kn - k ≤ c - k by omega) hlo hmv hhv q1 q3 q5 w
              refine ⟨_, base _ _ _ _ _ _ r1, ?_⟩
              have := at_ok (off := off) (l := l) (size := i.size) (m := m) (len := hh - l) hm (show m - l < BIG by omega)
              simpa [adda] using this
        · have hk0 : kn = 0 := by
            obtain ⟨cs, kk, hb, q⟩ := cellsIn_some q0
            cases kk with
            | ro => cases q
            | own => cases q
            | grow es' =>
              rcases he.ok _ _ hb with ⟨es, h1, h2, h3⟩ | ⟨a', n', h1, h2, h3, h4⟩
              · subst h2
                obtain ⟨q1, q2⟩ := ifb_eq_some q
                obtain rfl := Option.some.inj q2
                simp
              · rw [hm] at h1; simp at h1
          subst hk0
          rw [Nat.add_sub_cancel_left] at h
          cases hmx with
          | none =>
            obtain ⟨hh, q2, q3⟩ := ob_eq_some h
            obtain ⟨l, q4, q5⟩ := ob_eq_some q3
            obtain ⟨r1, r2, r3⟩ := bounds_none (P := P) (isS := true) (cap := 0) hlo hhi q2 q4 w
            have e1 : hh = 0 := by omega
            have e2 : l = 0 := by omega
            subst e1; subst e2
            obtain ⟨q6, q7⟩ := ifb_eq_some q5
            obtain rfl := Option.some.inj q7
            refine ⟨_, base _ _ _ _ _ _ r1, ?_⟩
            simpa using Rep.gsliceV (ε := ε) (off := off + 0 * i.size) hm
          | some hmv =>
            cases hhi with
            | none => cases h
            | some hhv =>
              obtain ⟨m, q1, q2⟩ := ob_eq_some h
              obtain ⟨hh, q3, q4⟩ := ob_eq_some q2
              obtain ⟨l, q5, q6⟩ := ob_eq_some q4
              obtain ⟨q7, q8⟩ := ifb_eq_some q6
              simp at q7
      · rw [hcap, ifb_true] at h
        rw [Nat.blt_eq] at hcap
        obtain ⟨a, c, hm, rfl⟩ : ∃ a c, ε.m b = some (some a, c) ∧ cx = .slice (some ⟨a.block, a.off + off, none⟩) len cap := by
          rcases hx.slice_some with ⟨a, c, hm, ⟨_, rfl⟩ | ⟨k, rfl, _, _⟩⟩ | ⟨_, _, rfl, _⟩
          · exact ⟨a, c, hm, rfl⟩
          · omega
          · omega
        unfold slExact at h
        cases hmx with
        | none =>
          obtain ⟨hh, q2, q3⟩ := ob_eq_some h
          obtain ⟨l, q4, q5⟩ := ob_eq_some q3
          obtain rfl := Option.some.inj q5
          obtain ⟨r1, r2, r3⟩ := bounds_none (P := P) (isS := true) hlo hhi q2 q4 w
          refine ⟨_, base _ _ _ _ _ _ r1, ?_⟩
          have := at_ok (off := off) (l := l) (size := i.size) (m := cap) (len := hh - l) hm (show cap - l < BIG by omega)
          simpa [adda] using this
        | some hmv =>
          cases hhi with
          | none => cases h
          | some hhv =>
            obtain ⟨m, q1, q2⟩ := ob_eq_some h
            obtain ⟨hh, q3, q4⟩ := ob_eq_some q2
            obtain ⟨l, q5, q6⟩ := ob_eq_some q4
            obtain rfl := Option.some.inj q6
            obtain ⟨r1, r2, r3, r4⟩ := bounds_some (P := P) (isS := true) (len := len) (Nat.le_refl cap) hlo hmv hhv q1 q3 q5 w
            refine ⟨_, base _ _ _ _ _ _ r1, ?_⟩
            have := at_ok (off := off) (l := l) (size := i.size) (m := m) (len := hh - l) hm (show m - l < BIG by omega)
            simpa [adda] using this
    · -- nothing in it, wherever it stands
      cases hx with
      | empty a c =>
        have fin : ∀ (y : Option Addr) (z : Nat), Rep ε emptyMark (.slice y 0 z) := fun y z => .empty y z
        unfold slEm at h
        cases hmx with
        | none =>
          obtain ⟨hh, q2, q3⟩ := ob_eq_some h
          obtain ⟨l, q4, q5⟩ := ob_eq_some q3
          obtain rfl := Option.some.inj q5
          have e1 : hh = 0 ∧ aHigh 0 c hi = some hh := by
            cases hhi with
            | none =>
              obtain ⟨_, b2⟩ := ifb_eq_some (show ifb (Nat.ble 0 0) (some 0) none = some hh from q2)
              obtain rfl := Option.some.inj b2
              exact ⟨rfl, by show ifb (Nat.ble 0 c) (some 0) none = some 0; rw [Nat.ble_eq_true_of_le (Nat.zero_le c)]; rfl⟩
            | some hv =>
              obtain ⟨kk, m, e1, b1⟩ := nn_some (show aBound 0 _ = some hh from q2)
              obtain ⟨b2, b3⟩ := ifb_eq_some b1
              obtain rfl := Option.some.inj b3
              have b2 := Nat.le_of_ble_eq_true b2
              subst e1
              refine ⟨by omega, ?_⟩
              show ifb (Nat.ble m c) (some m) none = some m
              rw [Nat.ble_eq_true_of_le (by omega)]; rfl
          obtain ⟨rfl, e2⟩ := e1
          obtain ⟨r1, r2, r3⟩ := bounds_none (P := P) (isS := true) hlo hhi e2 q4 w
          exact ⟨_, base _ _ _ _ _ _ r1, by rw [Nat.zero_sub]; exact fin _ _⟩
        | some hmv =>
          cases hhi with
          | none => cases h
          | some hhv =>
            obtain ⟨m, q1, q2⟩ := ob_eq_some h
            obtain ⟨hh, q3, q4⟩ := ob_eq_some q2
            obtain ⟨l, q5, q6⟩ := ob_eq_some q4
            obtain rfl := Option.some.inj q6
            obtain ⟨r1, r2, r3, r4⟩ := bounds_some (P := P) (isS := true) (len := 0) (cap := c) (Nat.zero_le c) hlo hmv hhv q1 q3 q5 w
            obtain rfl : m = 0 := by omega
            obtain rfl : hh = 0 := by omega
            exact ⟨_, base _ _ _ _ _ _ r1, by rw [Nat.zero_sub]; exact fin _ _⟩
    · cases h

/- append -/
theorem firstCells_ok {ε : Env} {σ : AHeap} {w : World} (he : Emb ε σ.get w) {size n : Nat} {x cx : Value} {l : List Value} (h : firstA σ size n x = some l) (hn : lenA x = some n) (hx : Rep ε x cx) :
    l.length = n * size ∧ Builtin.lenOf cx = Pure.pure n ∧ ∃ cn, RepL ε l cn ∧ ∀ w', w'.heap = w.heap → (Builtin.firstCells size n cx).run P w' = .ok ⟨cn⟩ w' := by
  unfold firstA at h
  split at h
  · obtain rfl := Option.some.inj h
    obtain rfl := Option.some.inj (show some 0 = some n from hn)
    cases hx
    exact ⟨by simp, rfl, [], .nil, fun w' _ => by simp [Builtin.firstCells]⟩
  · rename_i b off len cap
    obtain ⟨h1, h2⟩ := ifb_eq_some h
    obtain ⟨c, k, hb, h3⟩ := cellsIn_some h2
    obtain ⟨h4, rfl⟩ := sub_some h3
    obtain rfl := Option.some.inj (show some len = some n from hn)
    have fin : ∀ (a : Addr) (m cap' : Nat), ε.m b = some (some a, m) → ((c.drop off).take (len * size)).length = len * size ∧ Builtin.lenOf (.slice (some ⟨a.block, a.off + off, none⟩) len cap') = Pure.pure len ∧
        ∃ cn, RepL ε ((c.drop off).take (len * size)) cn ∧ ∀ w', w'.heap = w.heap → (Builtin.firstCells size len (.slice (some ⟨a.block, a.off + off, none⟩) len cap')).run P w' = .ok ⟨cn⟩ w' := by
      intro a m cap' hm
      refine ⟨by simp; omega, rfl, ?_⟩
      obtain ⟨_, hc, _⟩ := he.cells hb hm
      obtain ⟨cc, e1, e2, e3⟩ := cellsAt_list (b := a.block) (o := a.off) (s := a.spot) hc off (len * size) h4
      refine ⟨cc, e1, fun w' hw' => ?_⟩
      have := run_loadCells_list (P := P) w' ⟨a.block, a.off + off, none⟩ cc (fun j v hj => by
        rw [World.cell?_of_block (w := w) (by rw [hw'])]; exact e3 j v hj)
      rw [e2] at this
      simp only [Builtin.firstCells]
      exact this
    rcases hx.slice_some with ⟨a, c', hm, ⟨_, rfl⟩ | ⟨k, _, _, rfl⟩⟩ | ⟨_, rfl, _, rfl⟩
    · exact fin a _ _ hm
    · exact fin a _ _ hm
    · refine ⟨by simp, rfl, [], by simp; exact .nil, fun w' _ => by simp [Builtin.firstCells]⟩
  · obtain ⟨h1, h2⟩ := ifb_eq_some h
    obtain rfl := Option.some.inj h2
    have := Nat.eq_of_beq_eq_true h1
    subst this
    cases hx with
    | empty a c => cases a with
      | none => exact ⟨by simp, rfl, [], .nil, fun w' _ => by simp [Builtin.firstCells]⟩
      | some a => exact ⟨by simp, rfl, [], .nil, fun w' _ => by simp [Builtin.firstCells, loadCells, loadCellsFrom]⟩
  · cases h

/-- what is appended, in the model -/
def Src (P : Program) (ε : Env) (w : World) (elem : TypeId) (size : Nat) (xt : TypeId) (cx : Value) (n : Nat) (new : List Value) : Prop :=
  ∃ cn, RepL ε new cn ∧ new.length = n * size ∧
    (((∃ e, P.underlying xt = some (.slice e)) ∧ (Builtin.lenOf cx = Pure.pure n) ∧ (∀ w', w'.heap = w.heap → (Builtin.firstCells size n cx).run P w' = .ok ⟨cn⟩ w')) ∨
     (∃ k z, P.underlying xt = some (.int k) ∧ cx = .int .i64 (n : Int) ∧ n < 1099511627776 ∧ zeroOf P elem = some z ∧ z.cells.size = size ∧ (⟨cn⟩ : Array Value) = Builtin.zeroCells z.cells n))

theorem arr3 (a b : List Value) (R : Array Value) : (⟨a⟩ : Array Value) ++ (⟨b⟩ ++ R) = (a ++ b).toArray ++ R := by
  apply Array.ext'
  simp

theorem app_run {w : World} {st xt elem : TypeId} {i : TypeInfo} {z : Value} {ts : Array TypeId} {cx : Value} {n : Nat} {cn : List Value} (h0 : ts[0]? = some st) (h1 : ts[1]? = some xt) (ht : P.underlying st = some (.slice elem)) (hi : P.info? elem = some i) (hz : zeroOf P elem = some z) (hb : 0 < i.bytes)
    (hs : ((∃ e, P.underlying xt = some (.slice e)) ∧ (Builtin.lenOf cx = Pure.pure n) ∧ (∀ w', w'.heap = w.heap → (Builtin.firstCells i.size n cx).run P w' = .ok ⟨cn⟩ w')) ∨
     (∃ k z, P.underlying xt = some (.int k) ∧ cx = .int .i64 (n : Int) ∧ n < 1099511627776 ∧ zeroOf P elem = some z ∧ z.cells.size = i.size ∧ (⟨cn⟩ : Array Value) = Builtin.zeroCells z.cells n))
    (ty : TypeId) (base : Option Addr) (sLen sCap : Nat) (hbnd : (sLen + n) * i.bytes ≤ 274877906944) (co : List Value) (hold : sCap < sLen + n → (Builtin.firstCells i.size sLen (.slice base sLen sCap)).run P w.drew = .ok ⟨co⟩ w.drew) :
    (Builtin.append_ ts ty #[.slice base sLen sCap, cx]).run P w =
      if sLen + n ≤ sCap then (match base with
        | some a => ((storeCells (a.add (sLen * i.size)) cn).run P w).andThen fun _ w' => .ok (.slice base (sLen + n) sCap) w'
        | none => .ok (.slice base (sLen + n) sCap) w)
      else .ok (.slice (some ⟨w.heap.size, 0, none⟩) (sLen + n) (grownCap w (sLen + n) sCap elem)) (w.drew.alloc (.cells (⟨co⟩ ++ ⟨cn⟩ ++ Builtin.zeroCells z.cells (grownCap w (sLen + n) sCap elem - (sLen + n))) elem)) := by
  obtain ⟨i', hi', hzz⟩ := info_of_zero hz
  rw [hi] at hi'; obtain rfl := Option.some.inj hi'
  have hsmall : sLen + n ≤ 274877906944 := by
    have : (sLen + n) * 1 ≤ (sLen + n) * i.bytes := Nat.mul_le_mul_left _ hb
    omega
  have h63 : ¬ (9223372036854775807 < ((sLen : Int) + (n : Int))) := by omega
  have hzv : ∀ w, (zeroValue elem).run P w = .ok z w := fun w => (run_zeroValue hz w).1
  have big : ¬ (281474976710656 < Builtin.nextslicecap (sLen + n) sCap * i.bytes) ∨ sLen + n ≤ sCap := by
    by_cases hle : sLen + n ≤ sCap
    · exact .inr hle
    · have := growslice_fits (need := sLen + n) (old := sCap) (bytes := i.bytes) (by omega) (by omega)
      exact .inl (by omega)
  rcases hs with ⟨⟨d, hd⟩, hl, hf⟩ | ⟨k, z', hd, rfl, hn, hz', hzs, hcn⟩
  · have hf0 := hf w rfl
    have hf1 := hf w.drew rfl
    by_cases hle : sLen + n ≤ sCap
    · rw [if_pos hle]
      cases base with
      | none => simp [Builtin.append_, h0, h1, run_underlying ht, run_underlying hd, run_sizeOf hi, hl, hle, hf0]
      | some a => simp [Builtin.append_, h0, h1, run_underlying ht, run_underlying hd, run_sizeOf hi, hl, hle, hf0]
    · rw [if_neg hle]
      have big := big.resolve_right hle
      have hold := hold (by omega)
      simp [Builtin.append_, h0, h1, run_underlying ht, run_underlying hd, run_sizeOf hi, hl, hle, hold, hf1, typeInfo, hi, h63, big, Question.forced, hzv, newRow, grownCap]
      rw [arr3]
  · rw [hz] at hz'
    obtain rfl := Option.some.inj hz'
    have hw : IntKind.i64.wrap (n : Int) = n := wrap_lt .i64 (by show n < 9223372036854775808; omega)
    have hn0 : ¬ ((n : Int) < 0) := by omega
    have hnb : ¬ (281474976710656 < (n : Int) * (i.bytes : Int)) := by
      have h1 : n * i.bytes ≤ (sLen + n) * i.bytes := Nat.mul_le_mul_right _ (by omega)
      have h2 : ((n * i.bytes : Nat) : Int) ≤ 281474976710656 := by omega
      rw [Int.natCast_mul] at h2; omega
    have hap : ∀ w, (if n * i.size = 0 then Pure.pure #[] else do Pure.pure (Builtin.zeroCells (← zeroValue elem).cells n) : Sem (Array Value)).run P w = .ok ⟨cn⟩ w := by
      intro w
      by_cases h0 : n * i.size = 0
      · rw [if_pos h0, hcn]
        simp [Builtin.zeroCells, hzs, h0, Array.range_zero']
      · rw [if_neg h0, hcn]
        simp [hzv]
    have hc0 : n * i.size = 0 → cn = [] := by
      intro h0
      have : (⟨cn⟩ : Array Value).size = 0 := by rw [hcn]; simp [Builtin.zeroCells, hzs, h0]
      simpa using this
    by_cases hle : sLen + n ≤ sCap
    · rw [if_pos hle]
      cases base with
      | none => simp [Builtin.append_, h0, h1, run_underlying ht, run_underlying hd, run_sizeOf hi, hle, asInt, asIntOf, hw, hn0, typeInfo, hi, hnb, hzv]
      | some a =>
        simp [Builtin.append_, h0, h1, run_underlying ht, run_underlying hd, run_sizeOf hi, hle, asInt, asIntOf, hw, hn0, typeInfo, hi, hnb, hzv]
        by_cases h0 : n * i.size = 0
        · rw [if_pos h0, hc0 h0]
        · rw [if_neg h0, ← hcn]
    · rw [if_neg hle]
      have big := big.resolve_right hle
      have hold := hold (by omega)
      simp [Builtin.append_, h0, h1, run_underlying ht, run_underlying hd, run_sizeOf hi, hle, typeInfo, hi, hold, h63, big, Question.forced, newRow, grownCap, asInt, asIntOf, hw, hn0, hnb, hzv]
      by_cases h0 : n * i.size = 0
      · rw [if_pos h0, hc0 h0]; simp
      · rw [if_neg h0, ← hcn, arr3]

/-- from what is known of the source to what the model appends -/
theorem src_ok {ε : Env} {σ : AHeap} {w : World} (he : Emb ε σ.get w) {elem xt : TypeId} {i : TypeInfo} {z : Value} {x cx : Value} {n : Nat} {new : List Value} (hz : zeroOf P elem = some z) (hzs : z.cells.size = i.size) (hpos : 0 < i.size) (hx : Rep ε x cx)
    (h : (match P.underlying xt with
        | some (.int _) => srcZ z.cells.toList i.size
        | some (.slice _) => srcSl i.size
        | _ => fun _ _ => none) σ x = some (n, new)) : new.length = n * i.size ∧ ∃ cn, RepL ε new cn ∧
    (((∃ e, P.underlying xt = some (.slice e)) ∧ (Builtin.lenOf cx = Pure.pure n) ∧ (∀ w', w'.heap = w.heap → (Builtin.firstCells i.size n cx).run P w' = .ok ⟨cn⟩ w')) ∨
     (∃ k z, P.underlying xt = some (.int k) ∧ cx = .int .i64 (n : Int) ∧ n < 1099511627776 ∧ zeroOf P elem = some z ∧ z.cells.size = i.size ∧ (⟨cn⟩ : Array Value) = Builtin.zeroCells z.cells n)) := by
  generalize hd : P.underlying xt = od at h ⊢
  rcases od with _ | d
  · cases h
  cases d <;> try (cases h; done)
  case int k =>
    obtain ⟨k', m, rfl, h1⟩ := nn_some (show nn x _ = some (n, new) from h)
    obtain ⟨h2, h3⟩ := ifb_eq_some h1
    simp only [Bool.and_eq_true, Nat.blt_eq, decide_eq_true_eq] at h2
    obtain ⟨rfl, h4⟩ := h2
    obtain ⟨rfl, rfl⟩ := Prod.mk.inj (Option.some.inj h3)
    have hne : z.cells.toList ≠ [] := by
      intro e
      have : z.cells.toList.length = 0 := by rw [e]; rfl
      simp only [Array.length_toList] at this
      omega
    have hcl : RepL ε (cyc z.cells.toList (m * i.size) z.cells.toList) (cyc z.cells.toList (m * i.size) z.cells.toList) := closed_list fun v hv => by
      rcases cyc_mem _ _ _ _ hv with hv | hv <;> exact zero_cells hz hv
    refine ⟨cyc_length _ hne _ _, _, hcl, .inr ⟨k, z, rfl, hx.int_inv, h4, hz, hzs, ?_⟩⟩
    have := madeCells_eq z.cells hne (m * i.size)
    apply Array.ext'
    rw [show (⟨cyc z.cells.toList (m * i.size) z.cells.toList⟩ : Array Value).toList = cyc z.cells.toList (m * i.size) z.cells.toList from rfl, ← this]
    unfold madeCells Builtin.zeroCells
    rw [hzs]
  case slice e =>
    obtain ⟨m, h1, h2⟩ := ob_eq_some (show srcSl i.size σ x = some (n, new) from h)
    obtain ⟨c, h3, h4⟩ := ob_eq_some h2
    obtain ⟨rfl, rfl⟩ := Prod.mk.inj (Option.some.inj h4)
    obtain ⟨e1, e2, cn, e3, e4⟩ := firstCells_ok (P := P) he h3 h1 hx
    exact ⟨e1, cn, e3, .inl ⟨⟨e, rfl⟩, e2, e4⟩⟩

theorem grown_ge (w : World) (need old : Nat) (e : TypeId) : need ≤ grownCap w need old e := grownCap_ge w need old e

/-- a new array of unknown room, behind the draw of that room -/
theorem Step.fresh {ε : Env} {g : AMap} {w : World} {n : Nat} (h : Emb ε g w) (hf : ε.m n = none) (t : TypeId) (es N len : Nat) {c cc : List Value} {rest : Array Value} (hc : RepL ε c cc) (hlen : c.length = len * es) (hN : len ≤ N) (hr : rest.size = (N - len) * es) :
    Step n (n + 1) ε g w (ε.upd n (some ⟨w.heap.size, 0, none⟩, N)) (g.set n (some (.cells c (.grow es)))) (w.drew.alloc (.cells (cc.toArray ++ rest) t)) := by
  have h1 : Step n n ε g w ε g w.drew := Step.draw n h
  have hcl := hc.length
  have e1 : (cc ++ rest.toList).take c.length = cc := by rw [← hcl]; simp
  have hN2 : N * es = len * es + (N - len) * es := by rw [← Nat.add_mul]; congr 1; omega
  have h2 := Step.alloc_grow h1.emb hf t es N (c := c) (cc := cc ++ rest.toList) (by rw [e1]; exact hc) (by omega) (by simp [hcl, hlen, hr]; omega)
  have h3 := h1.trans h2
  have e2 : (⟨cc ++ rest.toList⟩ : Array Value) = cc.toArray ++ rest := by apply Array.ext'; simp
  rw [e2] at h3
  exact h3

theorem size_zeroCells' (z : Array Value) (n : Nat) : (Builtin.zeroCells z n).size = n * z.size := by simp [Builtin.zeroCells]

/-- behind the known cells more are written -/
theorem cells_after {ε : Env} {w : World} {B o0 : Nat} {old new cn : List Value} (hold : cellsAt ε w ⟨B, o0, none⟩ old) (hcn : RepL ε new cn) (hs : ∀ j, j < cn.length → (w.cell? ⟨B, o0 + old.length + j, none⟩).isSome = true) :
    cellsAt ε (w.setCells B (o0 + old.length) cn) ⟨B, o0, none⟩ (old ++ new) := by
  intro i v hi
  by_cases h : i < old.length
  · rw [List.getElem?_append_left h] at hi
    obtain ⟨cv, e1, e2⟩ := hold i v hi
    refine ⟨cv, ?_, e2⟩
    rw [World.cell?_setCells_out _ _ _ _ _ (fun _ _ => .inl (by simp; omega))]
    exact e1
  · rw [List.getElem?_append_right (by omega)] at hi
    obtain ⟨cv, e1, e2⟩ := hcn.get hi
    have hj : i - old.length < cn.length := by
      rcases Nat.lt_or_ge (i - old.length) cn.length with h | h
      · exact h
      · rw [List.getElem?_eq_none h] at e1; cases e1
    refine ⟨cv, ?_, e2⟩
    have := World.cell?_setCells_in B cn (o0 + old.length) w hs (i - old.length) hj
    rw [show o0 + old.length + (i - old.length) = o0 + i by omega] at this
    show (w.setCells B (o0 + old.length) cn).cell? ⟨B, o0 + i, none⟩ = some cv
    rw [this, ← e1]; simp [hj]

/-- still there behind writes -/
theorem still_there {w : World} {B o : Nat} {cn : List Value} {k : Nat} (h : (w.cell? ⟨B, k, none⟩).isSome = true) (hs : ∀ j, j < cn.length → (w.cell? ⟨B, o + j, none⟩).isSome = true) : ((w.setCells B o cn).cell? ⟨B, k, none⟩).isSome = true := by
  by_cases hk : o ≤ k ∧ k < o + cn.length
  · have := World.cell?_setCells_in B cn o w hs (k - o) (by omega)
    rw [show o + (k - o) = k by omega] at this
    rw [this]; rfl
  · rw [World.cell?_setCells_out _ _ _ _ _ (fun _ _ => by simp; omega)]
    exact h

theorem cAppend_ok {ε : Env} {σ : AHeap} {w : World} (he : Emb ε σ.get w) {st : TypeId} {ts : Array TypeId} {s x cs cx : Value} {r : AR} (h0 : ts[0]? = some st) (h : cAppend P st ts[1]? σ s x = some r) (hs : Rep ε s cs) (hx : Rep ε x cx) (ty : TypeId) :
    ∃ v, ∃ σ' : AHeap, r = .val v σ' ∧ σ.next ≤ σ'.next ∧ ((∀ b, σ.next ≤ b → b < σ'.next → ε.m b = none) → ∃ ε' w' cv, (Builtin.append_ ts ty #[cs, cx]).run P w = .ok cv w' ∧ Rep ε' v cv ∧ Step σ.next σ'.next ε σ.get w ε' σ'.get w') := by
  unfold cAppend at h
  generalize ht : P.underlying st = ot at h
  generalize h1 : ts[1]? = o1 at h
  rcases ot with _ | d
  · cases h
  cases d <;> try (cases h; done)
  rename_i elem
  rcases o1 with _ | xt
  · cases h
  dsimp only at h
  generalize hi : P.info? elem = oi at h
  generalize hz : zeroOf P elem = oz at h
  rcases oi with _ | i
  · cases h
  rcases oz with _ | z
  · cases h
  dsimp only at h
  cases hc : (Nat.blt 0 i.size && Nat.blt 0 i.bytes && Nat.beq z.cells.size i.size)
  · rw [hc, ifb_false] at h; cases h
  rw [hc, ifb_true] at h
  simp only [Bool.and_eq_true, Nat.blt_eq] at hc
  obtain ⟨⟨hpos, hbp⟩, hzs⟩ := hc
  have hzs := Nat.eq_of_beq_eq_true hzs
  unfold appWith at h
  obtain ⟨⟨n, new⟩, q1, q2⟩ := ob_eq_some h
  obtain ⟨hnl, cn, hcn, hsrc⟩ := src_ok (P := P) he hz hzs hpos hx q1
  clear h q1
  dsimp only at q2
  -- a new array
  have mk : ∀ (g : AMap) (σ1 : AHeap) (hg : Emb ε g w) (base : Option Addr) (sLen sCap : Nat) (old co : List Value), σ1.get = g → σ1.next = σ.next → sCap < sLen + n → (sLen + n) * i.bytes ≤ 274877906944 → RepL ε old co → old.length = sLen * i.size →
      ((Builtin.firstCells i.size sLen (.slice base sLen sCap)).run P w.drew = .ok ⟨co⟩ w.drew) → (∀ b x, g b = some x → σ.get b = some x) →
      Eng.fresh σ1 i.size (sLen + n) (old ++ new) = some r → ∃ v, ∃ σ' : AHeap, r = .val v σ' ∧ σ.next ≤ σ'.next ∧ ((∀ b, σ.next ≤ b → b < σ'.next → ε.m b = none) →
        ∃ ε' w' cv, (Builtin.append_ ts ty #[.slice base sLen sCap, cx]).run P w = .ok cv w' ∧ Rep ε' v cv ∧ Step σ.next σ'.next ε σ.get w ε' σ'.get w') := by
    intro g σ1 hg base sLen sCap old co e1 e2 hlt hb hold hol hfo hsub hfr
    obtain ⟨σ', p1, p2, p3⟩ := push_some hfr
    obtain rfl := Option.some.inj p3
    refine ⟨_, σ', rfl, by omega, fun hff => ?_⟩
    have hf : ε.m σ1.next = none := hff _ (by omega) (by omega)
    have hrun := app_run (P := P) (w := w) h0 h1 ht hi hz hbp hsrc ty base sLen sCap hb co (fun _ => hfo)
    rw [if_neg (by omega)] at hrun
    have hst := Step.fresh hg hf elem i.size (grownCap w (sLen + n) sCap elem) (sLen + n) (c := old ++ new) (cc := co ++ cn) (rest := Builtin.zeroCells z.cells (grownCap w (sLen + n) sCap elem - (sLen + n))) (hold.append hcn) (by rw [List.length_append, hol, hnl, Nat.add_mul]) (grown_ge _ _ _ _) (by rw [size_zeroCells', hzs])
    have hfg := Step.forget (g := σ.get) (g' := g) σ.next he hsub
    rw [e2] at hst p2
    have hst := hfg.trans hst
    rw [show (⟨co⟩ : Array Value) ++ ⟨cn⟩ = (co ++ cn).toArray from by apply Array.ext'; simp] at hrun
    rw [e1, e2] at p1
    refine ⟨_, _, _, hrun, ?_, by rw [p1, p2]; exact hst⟩
    rw [e2]
    have := Rep.gslice (ε := ε.upd σ.next (some ⟨w.heap.size, 0, none⟩, grownCap w (sLen + n) sCap elem)) (b := σ.next) (off := 0) (len := sLen + n) (k := 0) (Env.upd_self _ _ _) (Nat.zero_le _)
    simpa using this
  have capB : ∀ {m : Nat}, capOk m i.bytes = true → m * i.bytes ≤ 274877906944 := fun {m} h => by
    have := Nat.le_of_ble_eq_true h
    omega
  unfold appAt at q2
  split at q2
  · -- nil
    cases hs
    by_cases hn : n = 0
    · subst hn
      obtain rfl := Option.some.inj (show some (AR.val (.slice none 0 0) σ) = some r from q2)
      refine ⟨_, σ, rfl, Nat.le_refl _, fun _ => ⟨ε, w, .slice none 0 0, ?_, .sliceNil, Step.refl _ he⟩⟩
      have := app_run (P := P) (w := w) h0 h1 ht hi hz hbp hsrc ty none 0 0 (by simp) [] (fun h => by omega)
      simpa using this
    · unfold appNil at q2
      rw [show Nat.beq n 0 = false from by cases hb : Nat.beq n 0; rfl; exact absurd (Nat.eq_of_beq_eq_true hb) hn, ifb_false] at q2
      obtain ⟨q3, q4⟩ := ifb_eq_some q2
      have hb := capB q3
      have := mk σ.get σ he none 0 0 [] [] rfl rfl (by omega) (by simpa using hb) .nil (by simp) (by simp [Builtin.firstCells]) (fun _ _ h => h) (by simpa using q4)
      exact this
  · rename_i b off len cap
    obtain ⟨c, k, hb, q3⟩ := cellsIn_some q2
    obtain ⟨old, q4, q5⟩ := ob_eq_some q3
    obtain ⟨hol, rfl⟩ := sub_some q4
    have hold_len : ((c.drop off).take (len * i.size)).length = len * i.size := by simp; omega
    cases hcap : Nat.blt cap BIG
    · rw [hcap, ifb_false] at q5
      unfold appGrow at q5
      split at q5
      · rename_i es
        obtain ⟨q6, q7⟩ := ifb_eq_some q5
        simp only [Bool.and_eq_true] at q6
        obtain ⟨⟨⟨q8, q9⟩, q10⟩, q11⟩ := q6
        have q8 := Nat.eq_of_beq_eq_true q8
        have q9 := Nat.eq_of_beq_eq_true q9
        have q10 := allL_all _ _ q10
        have hbd := capB q11
        subst q8
        rcases hs.slice_some with ⟨a, cc, hm, ⟨hlt, _⟩ | ⟨kk, rfl, hkc, rfl⟩⟩ | ⟨hm, rfl, rfl, rfl⟩
        · rw [← Nat.blt_eq, hcap] at hlt; cases hlt
        · rw [Nat.add_sub_cancel_left] at q9
          obtain ⟨hlt, hcells, hk⟩ := he.cells hb hm
          by_cases hroom : len + n ≤ cc - kk
          · -- in place, under a new name
            obtain ⟨σ', p1, p2, p3⟩ := push_some q7
            obtain rfl := Option.some.inj p3
            refine ⟨_, σ', rfl, by rw [p2]; exact Nat.le_succ _, fun hff => ?_⟩
            have hf : ε.m σ.next = none := hff _ (Nat.le_refl _) (by rw [p2]; exact Nat.lt_succ_self _)
            have hbn : b ≠ σ.next := fun e => by rw [e, hf] at hm; cases hm
            have hspan : ∀ j, j < (cc - kk) * i.size → off + j < cc * i.size := by
              intro j hj
              have : kk * i.size + (cc - kk) * i.size = cc * i.size := by rw [← Nat.add_mul]; congr 1; omega
              omega
            have hcl := hcn.length
            have hend : len * i.size + cn.length ≤ (cc - kk) * i.size := by
              rw [hcl, hnl, ← Nat.add_mul]; exact Nat.mul_le_mul_right _ hroom
            have hsome : ∀ j, j < (cc - kk) * i.size → (w.cell? ⟨a.block, a.off + off + j, none⟩).isSome = true ∧ w.frozen? ⟨a.block, a.off + off + j, none⟩ = false := by
              intro j hj
              have := hk.2 (off + j) (hspan j hj)
              rw [← Nat.add_assoc] at this; exact this
            have hwr : ∀ j, j < cn.length → (w.cell? ⟨a.block, a.off + off + len * i.size + j, none⟩).isSome = true := fun j hj => by
              have := (hsome (len * i.size + j) (by omega)).1
              rw [← Nat.add_assoc] at this; exact this
            have hfz : ∀ j, j < cn.length → w.frozen? ⟨a.block, a.off + off + len * i.size + j, none⟩ = false := fun j hj => by
              have := (hsome (len * i.size + j) (by omega)).2
              rw [← Nat.add_assoc] at this; exact this
            have hst : (storeCells ((⟨a.block, a.off + off, none⟩ : Addr).add (len * i.size)) cn).run P w = .ok () (w.setCells a.block (a.off + off + len * i.size) cn) := by
              rw [adda]
              have := run_storeCells_cells (P := P) a.block (a.off + off + len * i.size) cn 0 w (by simpa using hwr) (by simpa using hfz) (hcn.oneV q10)
              simpa using this
            have hrun := app_run (P := P) (w := w) h0 h1 ht hi hz hbp hsrc ty (some ⟨a.block, a.off + off, none⟩) len (cc - kk) hbd [] (fun h => by omega)
            rw [if_pos hroom] at hrun
            dsimp only at hrun
            rw [hst, Result.andThen_ok] at hrun
            obtain ⟨o1, o2, o3⟩ := setCells_os a.block cn (a.off + off + len * i.size) w
            have hko : (ABlk.cells c (.grow i.size)).isOwn = true := rfl
            have s1 := Step.turn (x' := .cells [] (.grow i.size)) σ.next he hb hko hm o1 o2 o3 (setCells_size _ _ _ _) (fun k hk => setCells_heap _ _ _ _ _ hk)
              (.inr ⟨a, cc, hm, by rw [setCells_size]; exact hlt, (fun i v hi => by simp at hi), by simp, fun j hj => ⟨still_there (hk.2 j hj).1 hwr, by rw [World.frozen?_setCells]; exact (hk.2 j hj).2⟩⟩) rfl
            have hle2 : ε.Le (ε.upd σ.next (some ⟨a.block, a.off + off, none⟩, cc - kk)) := Env.upd_le hf
            have hold2 : cellsAt ε w ⟨a.block, a.off + off, none⟩ ((c.drop off).take (len * i.size)) := by
              intro j v hj
              rw [List.getElem?_take] at hj
              split at hj
              · rw [List.getElem?_drop] at hj
                obtain ⟨cv, e1, e2⟩ := hcells _ v hj
                exact ⟨cv, by rw [← Nat.add_assoc] at e1; exact e1, e2⟩
              · cases hj
            have s2 := Step.rename (n := σ.next) (x' := .cells ((c.drop off).take (len * i.size) ++ new) (.grow i.size)) (o := off) (m' := cc - kk) s1.emb hf (show AMap.set σ.get b _ b = some _ from by simp [AMap.set]; rfl) rfl hm hbn
              (.inr ⟨⟨a.block, a.off + off, none⟩, cc - kk, Env.upd_self _ _ _, by rw [setCells_size]; exact hlt,
                by
                  have := cells_after hold2 hcn (by rw [hold_len]; exact hwr)
                  rw [hold_len] at this
                  exact this.keep hle2 rfl,
                by
                  refine ⟨?_, fun j hj => ⟨still_there (hsome j hj).1 hwr, by rw [World.frozen?_setCells]; exact (hsome j hj).2⟩⟩
                  rw [List.length_append, hold_len, hnl, ← Nat.add_mul]
                  exact Nat.mul_le_mul_right _ hroom⟩) rfl
            have s3 := s1.trans s2
            have hget : σ'.get = AMap.set (AMap.set (AMap.set σ.get b (some (.cells [] (.grow i.size)))) b none) σ.next (some (.cells ((c.drop off).take (len * i.size) ++ new) (.grow i.size))) := by
              rw [p1, AHeap.get_set σ none]
              funext x
              simp only [AMap.set]
              show (if x = σ.next then _ else _) = _
              by_cases h1 : x = σ.next
              · rw [if_pos h1, if_pos h1]
              · rw [if_neg h1, if_neg h1]
                by_cases h2 : x = b
                · rw [if_pos h2, if_pos h2]
                · rw [if_neg h2, if_neg h2, if_neg h2]
            rw [← hget] at s3
            refine ⟨_, _, _, hrun, ?_, by rw [p2]; exact s3⟩
            have := Rep.gslice (ε := ε.upd σ.next (some ⟨a.block, a.off + off, none⟩, cc - kk)) (b := σ.next) (off := 0) (len := len + n) (k := 0) (Env.upd_self _ _ _) (Nat.zero_le _)
            exact this
          · -- a new array; the old one's name goes
            have hcc : ∃ co, (Builtin.firstCells i.size len (.slice (some ⟨a.block, a.off + off, none⟩) len (cc - kk))).run P w.drew = .ok ⟨co⟩ w.drew ∧ RepL ε ((c.drop off).take (len * i.size)) co := by
              have hed : Emb ε σ.get w.drew := he.sameHeap rfl
              obtain ⟨co, e1, e2⟩ := loadCells_ok (P := P) hed hb hm off (len * i.size) hol
              exact ⟨co, e1, e2⟩
            obtain ⟨co, e1, e2⟩ := hcc
            have hsub : ∀ b' x, (σ.set b none).get b' = some x → σ.get b' = some x := by
              intro b' x hx
              rw [AHeap.get_set σ none] at hx
              simp only [AMap.set] at hx
              split at hx
              · cases hx
              · exact hx
            exact mk (σ.set b none).get (σ.set b none) (Step.forget σ.next he hsub).emb _ len (cc - kk) _ co rfl rfl (by omega) hbd e2 hold_len e1 hsub q7
        · -- a list of no room
          have hlen0 : (c.drop off).take (0 * i.size) = [] := by simp
          have hsub : ∀ b' x, (σ.set b none).get b' = some x → σ.get b' = some x := by
            intro b' x hx
            rw [AHeap.get_set σ none] at hx
            simp only [AMap.set] at hx
            split at hx
            · cases hx
            · exact hx
          by_cases hn : n = 0
          · subst hn
            obtain ⟨σ', p1, p2, p3⟩ := push_some q7
            obtain rfl := Option.some.inj p3
            refine ⟨_, σ', rfl, by rw [p2]; exact Nat.le_succ _, fun hff => ?_⟩
            have hf : ε.m σ.next = none := hff _ (Nat.le_refl _) (by rw [p2]; exact Nat.lt_succ_self _)
            have hrun := app_run (P := P) (w := w) h0 h1 ht hi hz hbp hsrc ty none 0 0 hbd [] (fun h => by omega)
            have s1 := Step.forget σ.next he hsub
            have s2 := s1.trans (Step.virt s1.emb hf i.size)
            have hnew : new = [] := by simpa using hnl
            subst hnew
            rw [p2]
            rw [hlen0] at p1
            refine ⟨_, w, .slice none 0 0, by simpa using hrun, ?_, by rw [p1]; exact s2⟩
            exact Rep.gsliceV (Env.upd_self _ _ _)
          · have := mk (σ.set b none).get (σ.set b none) (Step.forget σ.next he hsub).emb none 0 0 _ [] rfl rfl (by omega) hbd (by rw [hlen0]; exact .nil) (by rw [hlen0]; simp) (by simp [Builtin.firstCells]) hsub q7
            exact this
      · cases q5
    · rw [hcap, ifb_true] at q5
      rw [Nat.blt_eq] at hcap
      obtain ⟨a, cc, hm, rfl⟩ : ∃ a c, ε.m b = some (some a, c) ∧ cs = .slice (some ⟨a.block, a.off + off, none⟩) len cap := by
        rcases hs.slice_some with ⟨a, c, hm, ⟨_, rfl⟩ | ⟨k, rfl, _, _⟩⟩ | ⟨_, _, rfl, _⟩
        · exact ⟨a, c, hm, rfl⟩
        · omega
        · omega
      unfold appExact at q5
      cases hroom : Nat.ble (len + n) cap
      · rw [hroom, ifb_false] at q5
        have hroom : ¬ (len + n ≤ cap) := fun h => by rw [Nat.ble_eq_true_of_le h] at hroom; cases hroom
        obtain ⟨q6, q7⟩ := ifb_eq_some q5
        simp only [Bool.and_eq_true] at q6
        have hed : Emb ε σ.get w.drew := he.sameHeap rfl
        obtain ⟨co, e1, e2⟩ := loadCells_ok (P := P) hed hb hm off (len * i.size) hol
        exact mk σ.get σ he (some ⟨a.block, a.off + off, none⟩) len cap _ co rfl rfl (by omega) (capB q6.1) e2 hold_len e1 (fun _ _ h => h) q7
      · rw [hroom, ifb_true] at q5
        have hroom := Nat.le_of_ble_eq_true hroom
        obtain ⟨q6, q7⟩ := ifb_eq_some q5
        simp only [Bool.and_eq_true] at q6
        obtain ⟨⟨⟨q8, q9⟩, q10⟩, q11⟩ := q6
        have q9 := hasLen_le _ _ q9
        have q10 := allL_all _ _ q10
        obtain rfl := Option.some.inj q7
        refine ⟨_, _, rfl, Nat.le_refl _, fun _ => ?_⟩
        have hend : off + len * i.size + new.length ≤ c.length := by
          rw [hnl, Nat.add_assoc, ← Nat.add_mul]; exact q9
        obtain ⟨e1, e2⟩ := Step.write (P := P) he hb q8 hm (off + len * i.size) hend hcn q10
        have hrun := app_run (P := P) (w := w) h0 h1 ht hi hz hbp hsrc ty (some ⟨a.block, a.off + off, none⟩) len cap (capB q11) [] (fun h => by omega)
        rw [if_pos hroom] at hrun
        dsimp only at hrun
        rw [adda, Nat.add_assoc, e1, Result.andThen_ok] at hrun
        exact ⟨ε, _, _, hrun, .slice hcap hm, e2⟩
  · cases q2
end Go.Eng
