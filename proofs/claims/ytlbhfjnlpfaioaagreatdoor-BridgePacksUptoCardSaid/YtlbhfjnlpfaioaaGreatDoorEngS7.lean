/- The engine: code, calls. -/
import Derived.Test.YtlbhfjnlpfaioaaGreatDoorEngS6b
namespace Go.Eng
open Go
variable {P : Program}

def exitOf : AEx → Exit
  | .normal => .normal
  | .exit id => .exit id
  | .ret => .ret

def Fresh (ε : Env) (n n' : Nat) : Prop := ∀ b, n ≤ b → b < n' → ε.m b = none
theorem Fresh.sub {ε : Env} {n n' m m' : Nat} (h : Fresh ε n n') (h1 : n ≤ m) (h2 : m' ≤ n') : Fresh ε m m' := fun b hb hb' => h b (by omega) (by omega)
theorem Fresh.after {ε ε' : Env} {n n' n'' : Nat} {g g' : AMap} {w w' : World} (h : Fresh ε n n'') (hs : Step n n' ε g w ε' g' w') : Fresh ε' n' n'' := fun b hb hb' => by
  have := hs.up
  rw [hs.new b (by omega)]; exact h b (by omega) hb'

def CallOk (P : Program) (G : Nat) (f : FuncId) (args : List Value) (σ : AHeap) (v : Value) (σ' : AHeap) : Prop :=
  σ.next ≤ σ'.next ∧ ∀ ε cargs w, Emb ε σ.get w → RepL ε args cargs → GOk ε G → Fresh ε σ.next σ'.next →
    Calls P f ⟨cargs⟩ w fun
      | .returned cv, w' => ∃ ε', Rep ε' v cv ∧ Step σ.next σ'.next ε σ.get w ε' σ'.get w'
      | _, _ => False

def CallsOk (P : Program) (G : Nat) (call : CallF) : Prop := ∀ f args σ k r, call f args σ k = some r → ∃ v σ', k v σ' = some r ∧ CallOk P G f args σ v σ'

def StepOk (P : Program) (G n : Nat) (ops : Array Oper) (o : Oper) (t : Tr Value) (σ : AHeap) (t' : Tr Value) (σ' : AHeap) : Prop :=
  σ.next ≤ σ'.next ∧ ∀ ε a w (K : Act → World → Prop) (Q : Exit → Act → World → Prop), Emb ε σ.get w → FR ε n t a → GOk ε G → Fresh ε σ.next σ'.next →
    (∀ ε' a' w', Step σ.next σ'.next ε σ.get w ε' σ'.get w' → FR ε' n t' a' → K a' w') →
    if Region.wanted o (yielded ops a.tmps) then o.wp P a w K Q else K (a.put o.dst undef) w

theorem undef_rep {ε : Env} : Rep ε undef undef := .tuple .nil

theorem cput_ok {n : Nat} {d : Option Nat} {v : Value} {t : Tr Value} {k : Tr Value → RR} {r : Value × AHeap} (h : cput n d v t k = some r) :
    ∃ t', k t' = some r ∧ ∀ ε a cv, FR ε n t a → Rep ε v cv → FR ε n t' (a.put d cv) := by
  cases d with
  | none => exact ⟨t, h, fun ε a cv hf _ => hf⟩
  | some d =>
    have h' : ifb (Nat.blt d n && Nat.blt d 65536) (fun v t (k : Tr Value → RR) => k (Tr.set (pth 16 d) (some v) t)) (fun _ _ _ => none) v t k = some r := h
    cases hc : (Nat.blt d n && Nat.blt d 65536)
    · rw [hc] at h'; cases h'
    · rw [hc, ifb_true] at h'
      simp only [Bool.and_eq_true, Nat.blt_eq] at hc
      exact ⟨_, h', fun ε a cv hf hv => hf.put hc.1 hc.2 hv⟩

theorem execV_ok {G n : Nat} {call : CallF} (hcall : CallsOk P G call) {o : Oper} {t : Tr Value} {σ : AHeap} {k : Value → AHeap → RR} {r : Value × AHeap} (h : execV (aop P G o.op) call t σ k = some r) :
    ∃ v σ', k v σ' = some r ∧ σ.next ≤ σ'.next ∧ ∀ ε a w (K : Act → World → Prop) (Q : Exit → Act → World → Prop), Emb ε σ.get w → FR ε n t a → GOk ε G → Fresh ε σ.next σ'.next →
      (∀ ε' cv w', Step σ.next σ'.next ε σ.get w ε' σ'.get w' → Rep ε' v cv → K (a.put o.dst cv) w') → o.wp P a w K Q := by
  obtain ⟨x, h1, h⟩ := ob_eq_some h
  cases x with
  | val v σ' =>
    obtain ⟨h0, h2⟩ := ifb_eq_some (show ifb (Nat.ble σ.next σ'.next) (k v σ') none = some r from h)
    refine ⟨v, σ', h2, Nat.le_of_ble_eq_true h0, fun ε a w K Q he hf hg hfr hK => ?_⟩
    obtain ⟨q1, q2⟩ := aop_ok he hf hg h1
    obtain ⟨ε', w', cv, e1, e2, e3⟩ := q2 hfr
    simp only [Oper.wp, e1, Oper.upon]
    exact hK ε' cv w' e3 e2
  | skip σ' =>
    obtain ⟨h0, h2⟩ := ifb_eq_some (show ifb (Nat.ble σ.next σ'.next) (k undef σ') none = some r from h)
    refine ⟨undef, σ', h2, Nat.le_of_ble_eq_true h0, fun ε a w K Q he hf hg hfr hK => ?_⟩
    obtain ⟨q1, w', e1, e3⟩ := aop_ok he hf hg h1
    simp only [Oper.wp, e1, Oper.upon]
    exact hK ε undef w' e3 undef_rep
  | enter f args =>
    obtain ⟨v, σ', h2, h3⟩ := hcall f args σ _ r (show call f args σ k = some r from h)
    refine ⟨v, σ', h2, h3.1, fun ε a w K Q he hf hg hfr hK => ?_⟩
    obtain ⟨cargs, e1, e2⟩ := aop_ok he hf hg h1
    simp only [Oper.wp, e1, Oper.upon]
    refine (h3.2 ε cargs w he e2 hg hfr).mono fun e w' hR => ?_
    cases e with
    | returned cv =>
      obtain ⟨ε', e4, e5⟩ := hR
      exact hK ε' cv w' e5 e4
    | panicked c => exact hR.elim
    | outgrown => exact hR.elim

theorem wanted_none {o : Oper} (h : o.guard = none) (y : Nat → Option Bool) : Region.wanted o y = true := by simp [Region.wanted, h]

theorem nth_arr (ops : Array Oper) (j : Nat) : nth j ops.toList = ops[j]? := by rw [nth_eq]; simp

def StepVOk (P : Program) (G n : Nat) (ops : Array Oper) (o : Oper) (t : Tr Value) (σ : AHeap) (v : Value) (σ' : AHeap) : Prop :=
  σ.next ≤ σ'.next ∧ ∀ ε a w (K : Act → World → Prop) (Q : Exit → Act → World → Prop), Emb ε σ.get w → FR ε n t a → GOk ε G → Fresh ε σ.next σ'.next →
    (∀ ε' cv w', Step σ.next σ'.next ε σ.get w ε' σ'.get w' → Rep ε' v cv → K (a.put o.dst cv) w') →
    if Region.wanted o (yielded ops a.tmps) then o.wp P a w K Q else K (a.put o.dst undef) w

/-- what a guard says -/
theorem guard_ok {n : Nat} {ops : Array Oper} {j : Nat} {oj : Oper} (hj : ops[j]? = some oj) {d : Nat} (hd : oj.dst = some d) (hc : d < 65536) {t : Tr Value} {v : Value} (h1 : fget d t = some v) {ε : Env} {a : Act} (hf : FR ε n t a) :
    ∃ cv, yielded ops a.tmps j = (match cv with | .bool b => some b | _ => none) ∧ Rep ε v cv := by
  obtain ⟨cv, e1, e2⟩ := hf.slot d v hc h1
  refine ⟨cv, ?_, e2⟩
  simp only [yielded, hj, Option.bind_some, hd, e1]
  cases cv <;> rfl

theorem stepV_ok {G n : Nat} {call : CallF} (hcall : CallsOk P G call) {ops : Array Oper} {o : Oper} {t : Tr Value} {σ : AHeap} {k : Value → AHeap → RR} {r : Value × AHeap} (h : stepV P G n call ops.toList o t σ k = some r) :
    ∃ v σ', k v σ' = some r ∧ StepVOk P G n ops o t σ v σ' := by
  unfold stepV at h
  generalize hgd : o.guard = g at h
  rcases g with _ | ⟨j, want⟩
  · obtain ⟨v, σ', h1, h2, h3⟩ := execV_ok (P := P) (n := n) hcall h
    refine ⟨v, σ', h1, h2, fun ε a w K Q he hf hg hfr hK => ?_⟩
    rw [if_pos (wanted_none hgd _)]
    exact h3 ε a w K Q he hf hg hfr hK
  · dsimp only at h
    generalize hj : nth j ops.toList = oj at h
    rcases oj with _ | oj
    · cases h
    dsimp only at h
    rw [nth_arr] at hj
    generalize hd : oj.dst = d at h
    rcases d with _ | d
    · cases h
    dsimp only at h
    cases hc : (Nat.blt d n && Nat.blt d 65536)
    · rw [hc] at h; cases h
    rw [hc, ifb_true] at h
    simp only [Bool.and_eq_true, Nat.blt_eq] at hc
    obtain ⟨v, h1, h⟩ := ob_eq_some h
    have skip : (∀ ε a, FR ε n t a → Region.wanted o (yielded ops a.tmps) = false) → k undef σ = some r → ∃ v σ', k v σ' = some r ∧ StepVOk P G n ops o t σ v σ' := by
      intro hw h
      refine ⟨undef, σ, h, Nat.le_refl _, fun ε a w K Q he hf hg hfr hK => ?_⟩
      rw [if_neg (by simp [hw ε a hf])]
      exact hK ε _ w (.refl _ he) undef_rep
    cases v <;> try (cases h; done)
    case bool b =>
      dsimp only at h
      cases hb : (b == want)
      · rw [hb, cond_false] at h
        refine skip (fun ε a hf => ?_) h
        obtain ⟨cv, e1, e2⟩ := guard_ok hj hd hc.2 h1 hf
        obtain rfl := e2.bool_inv
        simp only [Region.wanted, hgd, e1]
        simpa using hb
      · rw [hb, cond_true] at h
        obtain ⟨v', σ', h1', h2, h3⟩ := execV_ok (P := P) (n := n) hcall h
        refine ⟨v', σ', h1', h2, fun ε a w K Q he hf hg hfr hK => ?_⟩
        have hw : Region.wanted o (yielded ops a.tmps) = true := by
          obtain ⟨cv, e1, e2⟩ := guard_ok hj hd hc.2 h1 hf
          obtain rfl := e2.bool_inv
          simp only [Region.wanted, hgd, e1]
          simpa using hb
        rw [if_pos hw]
        exact h3 ε a w K Q he hf hg hfr hK
    case tuple vs =>
      refine skip (fun ε a hf => ?_) h
      obtain ⟨cv, e1, e2⟩ := guard_ok hj hd hc.2 h1 hf
      cases e2
      simp [Region.wanted, hgd, e1]

theorem stepK_ok {G n : Nat} {call : CallF} (hcall : CallsOk P G call) {ops : Array Oper} {o : Oper} {t : Tr Value} {σ : AHeap} {k : Tr Value → AHeap → RR} {r : Value × AHeap} (h : stepK P G n call ops.toList o t σ k = some r) :
    ∃ t' σ', k t' σ' = some r ∧ StepOk P G n ops o t σ t' σ' := by
  obtain ⟨v, σ', h1, h2, h3⟩ := stepV_ok (P := P) hcall (show stepV P G n call ops.toList o t σ (fun v σ' => cput n o.dst v t (fun t' => k t' σ')) = some r from h)
  obtain ⟨t', h4, h5⟩ := cput_ok h1
  exact ⟨t', σ', h4, h2, fun ε a w K Q he hf hg hfr hK => h3 ε a w K Q he hf hg hfr fun ε' cv w' s hv => hK ε' _ w' s (h5 _ _ _ (hf.mono s.le) hv)⟩

def ListOk (P : Program) (G n : Nat) (ops : Array Oper) (l : List Oper) (t : Tr Value) (σ : AHeap) (t' : Tr Value) (σ' : AHeap) : Prop :=
  σ.next ≤ σ'.next ∧ ∀ ε a w (Q : Exit → Act → World → Prop), Emb ε σ.get w → FR ε n t a → GOk ε G → Fresh ε σ.next σ'.next →
    (∀ ε' a' w', Step σ.next σ'.next ε σ.get w ε' σ'.get w' → FR ε' n t' a' → Q .normal a' w') → wpList P ops Q l a w

theorem runOps_ok {G n : Nat} {call : CallF} (hcall : CallsOk P G call) (ops : Array Oper) : ∀ (l : List Oper) (t : Tr Value) (σ : AHeap) (k : Tr Value → AHeap → RR) (r : Value × AHeap), runOps P G n call ops.toList l t σ k = some r →
    ∃ t' σ', k t' σ' = some r ∧ ListOk P G n ops l t σ t' σ'
  | [], t, σ, k, r, h => ⟨t, σ, h, Nat.le_refl _, fun ε a w Q he hf hg hfr hK => hK ε a w (.refl _ he) hf⟩
  | o :: l, t, σ, k, r, h => by
    obtain ⟨t1, σ1, h1, h2⟩ := stepK_ok (P := P) hcall (show stepK P G n call ops.toList o t σ (fun t σ => runOps P G n call ops.toList l t σ k) = some r from h)
    obtain ⟨t2, σ2, h3, h4⟩ := runOps_ok hcall ops l t1 σ1 k r h1
    refine ⟨t2, σ2, h3, Nat.le_trans h2.1 h4.1, fun ε a w Q he hf hg hfr hK => ?_⟩
    have key := h2.2 ε a w (wpList P ops Q l) Q he hf hg (hfr.sub (Nat.le_refl _) h4.1) (fun ε1 a1 w1 s1 f1 =>
      h4.2 ε1 a1 w1 Q s1.emb f1 (hg.mono s1.le) (hfr.after s1) (fun ε2 a2 w2 s2 f2 => hK ε2 a2 w2 (s1.trans s2) f2))
    show (if _ then _ else _)
    split
    · rename_i hw; rw [if_pos hw] at key; exact .inl key
    · rename_i hw; rw [if_neg hw] at key; exact key

def CodeOk (P : Program) (G n : Nat) (c : Code) (t : Tr Value) (σ : AHeap) (e : AEx) (t' : Tr Value) (σ' : AHeap) : Prop :=
  σ.next ≤ σ'.next ∧ ∀ ε a w (Q : Exit → Act → World → Prop), Emb ε σ.get w → FR ε n t a → GOk ε G → Fresh ε σ.next σ'.next →
    (∀ ε' a' w', Step σ.next σ'.next ε σ.get w ε' σ'.get w' → FR ε' n t' a' → Q (exitOf e) a' w') → c.wp P Q a w

/-- what is asked of a region that draws its order -/
def DrawOk (P : Program) (G n : Nat) (call : CallF) : Prop := ∀ (id : Nat) (ops : Array Oper) t σ k r, drawK P G n call ops.toList t σ k = some r → ∃ t' σ', k t' σ' = some r ∧ CodeOk P G n (.region id ops true) t σ .normal t' σ'

/-- a loop, round by round -/
def unroll (P : Program) (c : Code) (Q : Exit → Act → World → Prop) : Nat → Act → World → Prop
  | 0, _, _ => False
  | m + 1, a, w => c.wp P (Exit.then (unroll P c Q m) Q) a w

theorem wp_unroll {c : Code} {Q : Exit → Act → World → Prop} {m : Nat} {a : Act} {w : World} (h : unroll P c Q m a w) : (Code.loop c).wp P Q a w := by
  classical
  have mono : ∀ {m m' : Nat}, m ≤ m' → ∀ a w, unroll P c Q m a w → unroll P c Q m' a w := by
    intro m
    induction m with
    | zero => intro _ _ _ _ h; exact h.elim
    | succ m ih =>
      intro m' hm a w h
      cases m' with
      | zero => omega
      | succ m' => exact wp_mono h fun e a w q => by cases e <;> first | exact ih (by omega) _ _ q | exact q
  let I : Act → World → Prop := fun a w => ∃ m, unroll P c Q m a w
  let μ : Act → World → Nat := fun a w => if h : ∃ m, unroll P c Q m a w then Classical.choose (show ∃ m, unroll P c Q m a w ∧ ∀ m', unroll P c Q m' a w → m ≤ m' from by
    obtain ⟨m, hm⟩ := h
    induction m using Nat.strongRecOn with
    | _ m ih =>
      by_cases q : ∃ m', m' < m ∧ unroll P c Q m' a w
      · obtain ⟨m', q1, q2⟩ := q; exact ih m' q1 q2
      · exact ⟨m, hm, fun m' h' => by rcases Nat.lt_or_ge m' m with h2 | h2
                                      · exact absurd ⟨m', h2, h'⟩ q
                                      · exact h2⟩) else 0
  have spec : ∀ a w, I a w → unroll P c Q (μ a w) a w ∧ ∀ m', unroll P c Q m' a w → μ a w ≤ m' := by
    intro a w h
    have e : μ a w = _ := dif_pos h
    rw [e]
    exact Classical.choose_spec (p := fun m => unroll P c Q m a w ∧ ∀ m', unroll P c Q m' a w → m ≤ m') _
  refine wp_loop I μ ⟨m, h⟩ fun a w hI => ?_
  obtain ⟨h1, h2⟩ := spec a w hI
  generalize hm : μ a w = mm at h1 h2
  cases mm with
  | zero => exact h1.elim
  | succ mm =>
    refine wp_mono h1 fun e a' w' q => ?_
    cases e <;> first | exact q | skip
    have hI' : I a' w' := ⟨mm, q⟩
    exact ⟨hI', Nat.lt_succ_of_le ((spec a' w' hI').2 mm q)⟩

abbrev CK := Tr Value → AHeap → (AEx → Tr Value → AHeap → RR) → RR
def CKOk (P : Program) (G n : Nat) (c : Code) (f : CK) : Prop := ∀ t σ k r, f t σ k = some r → ∃ e t' σ', k e t' σ' = some r ∧ CodeOk P G n c t σ e t' σ'

theorem loopK_ok {G n : Nat} {c : Code} {body : CK} (hb : CKOk P G n c body) : ∀ (L : Nat) t σ k r, loopK body L t σ k = some r → ∃ e t' σ' m, k e t' σ' = some r ∧ σ.next ≤ σ'.next ∧
    ∀ ε a w (Q : Exit → Act → World → Prop), Emb ε σ.get w → FR ε n t a → GOk ε G → Fresh ε σ.next σ'.next →
    (∀ ε' a' w', Step σ.next σ'.next ε σ.get w ε' σ'.get w' → FR ε' n t' a' → Q (exitOf e) a' w') → unroll P c Q m a w
  | 0, t, σ, k, r, h => by cases h
  | L + 1, t, σ, k, r, h => by
    obtain ⟨e, t1, σ1, h1, h2⟩ := hb t σ _ r (show body t σ (fun e t σ => AEx.rec (loopK body L t σ k) (fun i => k (.exit i) t σ) (k .ret t σ) e) = some r from h)
    cases e with
    | normal =>
      obtain ⟨e, t2, σ2, m, h3, h4, h5⟩ := loopK_ok hb L t1 σ1 k r h1
      refine ⟨e, t2, σ2, m + 1, h3, Nat.le_trans h2.1 h4, fun ε a w Q he hf hg hfr hK => ?_⟩
      exact h2.2 ε a w _ he hf hg (hfr.sub (Nat.le_refl _) h4) fun ε1 a1 w1 s1 f1 =>
        h5 ε1 a1 w1 Q s1.emb f1 (hg.mono s1.le) (hfr.after s1) fun ε2 a2 w2 s2 f2 => hK ε2 a2 w2 (s1.trans s2) f2
    | exit i => exact ⟨.exit i, t1, σ1, 1, h1, h2.1, fun ε a w Q he hf hg hfr hK => h2.2 ε a w _ he hf hg hfr fun ε' a' w' s f => hK ε' a' w' s f⟩
    | ret => exact ⟨.ret, t1, σ1, 1, h1, h2.1, fun ε a w Q he hf hg hfr hK => h2.2 ε a w _ he hf hg hfr fun ε' a' w' s f => hK ε' a' w' s f⟩

theorem codeK_ok {G n : Nat} {call : CallF} (hcall : CallsOk P G call) (hdraw : DrawOk P G n call) (L : Nat) : ∀ c : Code, CKOk P G n c (codeK P G n call L c) := by
  intro c
  induction c with
  | skip => exact fun t σ k r h => ⟨.normal, t, σ, h, Nat.le_refl _, fun ε a w Q he hf hg hfr hK => wp_skip (hK ε a w (.refl _ he) hf)⟩
  | region id ops d =>
    intro t σ k r h
    cases d with
    | true =>
      obtain ⟨t', σ', h1, h2⟩ := hdraw id ops t σ _ r (show drawK P G n call ops.toList t σ (fun t σ => k .normal t σ) = some r from h)
      exact ⟨.normal, t', σ', h1, h2⟩
    | false =>
      obtain ⟨t', σ', h1, h2⟩ := runOps_ok hcall ops ops.toList t σ _ r (show runOps P G n call ops.toList ops.toList t σ (fun t σ => k .normal t σ) = some r from h)
      exact ⟨.normal, t', σ', h1, h2.1, fun ε a w Q he hf hg hfr hK => wp_region_list (h2.2 ε a w Q he hf hg hfr hK)⟩
  | seq x y ihx ihy =>
    intro t σ k r h
    obtain ⟨e, t1, σ1, h1, h2⟩ := ihx t σ _ r (show codeK P G n call L x t σ (fun e t σ => AEx.rec (codeK P G n call L y t σ k) (fun i => k (.exit i) t σ) (k .ret t σ) e) = some r from h)
    cases e with
    | normal =>
      obtain ⟨e, t2, σ2, h3, h4⟩ := ihy t1 σ1 k r h1
      refine ⟨e, t2, σ2, h3, Nat.le_trans h2.1 h4.1, fun ε a w Q he hf hg hfr hK => wp_seq ?_⟩
      exact h2.2 ε a w _ he hf hg (hfr.sub (Nat.le_refl _) h4.1) fun ε1 a1 w1 s1 f1 =>
        h4.2 ε1 a1 w1 Q s1.emb f1 (hg.mono s1.le) (hfr.after s1) fun ε2 a2 w2 s2 f2 => hK ε2 a2 w2 (s1.trans s2) f2
    | exit i => exact ⟨.exit i, t1, σ1, h1, h2.1, fun ε a w Q he hf hg hfr hK => wp_seq (h2.2 ε a w _ he hf hg hfr fun ε' a' w' s f => hK ε' a' w' s f)⟩
    | ret => exact ⟨.ret, t1, σ1, h1, h2.1, fun ε a w Q he hf hg hfr hK => wp_seq (h2.2 ε a w _ he hf hg hfr fun ε' a' w' s f => hK ε' a' w' s f)⟩
  | cond x a b iha ihb =>
    intro t σ k r h
    obtain ⟨v, h1, h⟩ := ob_eq_some (show condK (aval G x) (codeK P G n call L a) (codeK P G n call L b) t σ k = some r from h)
    split at h
    · obtain ⟨e, t', σ', h2, h3⟩ := iha t σ k r h
      exact ⟨e, t', σ', h2, h3.1, fun ε a w Q he hf hg hfr hK => wp_cond_true (aval_ok hf hg h1).bool_inv (h3.2 ε a w Q he hf hg hfr hK)⟩
    · obtain ⟨e, t', σ', h2, h3⟩ := ihb t σ k r h
      exact ⟨e, t', σ', h2, h3.1, fun ε a w Q he hf hg hfr hK => wp_cond_false (aval_ok hf hg h1).bool_inv (h3.2 ε a w Q he hf hg hfr hK)⟩
    · cases h
  | block id c ih =>
    intro t σ k r h
    obtain ⟨e, t1, σ1, h1, h2⟩ := ih t σ _ r (show codeK P G n call L c t σ (fun e t σ => AEx.rec (k .normal t σ) (fun i => ifb (Nat.beq i id) (k .normal t σ) (k (.exit i) t σ)) (k .ret t σ) e) = some r from h)
    cases e with
    | normal => exact ⟨.normal, t1, σ1, h1, h2.1, fun ε a w Q he hf hg hfr hK => wp_block (h2.2 ε a w _ he hf hg hfr fun ε' a' w' s f => hK ε' a' w' s f)⟩
    | exit i =>
      have h1' : ifb (Nat.beq i id) (k .normal t1 σ1) (k (.exit i) t1 σ1) = some r := h1
      cases hi : Nat.beq i id
      · rw [hi, ifb_false] at h1'
        refine ⟨.exit i, t1, σ1, h1', h2.1, fun ε a w Q he hf hg hfr hK => wp_block (h2.2 ε a w _ he hf hg hfr fun ε' a' w' s f => ?_)⟩
        show if i = id then _ else _
        rw [if_neg (fun e => by rw [e] at hi; simp at hi)]
        exact hK ε' a' w' s f
      · rw [hi, ifb_true] at h1'
        refine ⟨.normal, t1, σ1, h1', h2.1, fun ε a w Q he hf hg hfr hK => wp_block (h2.2 ε a w _ he hf hg hfr fun ε' a' w' s f => ?_)⟩
        show if i = id then _ else _
        rw [if_pos (Nat.eq_of_beq_eq_true hi)]
        exact hK ε' a' w' s f
    | ret => exact ⟨.ret, t1, σ1, h1, h2.1, fun ε a w Q he hf hg hfr hK => wp_block (h2.2 ε a w _ he hf hg hfr fun ε' a' w' s f => hK ε' a' w' s f)⟩
  | loop c ih =>
    intro t σ k r h
    obtain ⟨e, t', σ', m, h1, h2, h3⟩ := loopK_ok ih L t σ k r h
    exact ⟨e, t', σ', h1, h2, fun ε a w Q he hf hg hfr hK => wp_unroll (h3 ε a w Q he hf hg hfr hK)⟩
  | exit id => exact fun t σ k r h => ⟨.exit id, t, σ, h, Nat.le_refl _, fun ε a w Q he hf hg hfr hK => wp_exit (hK ε a w (.refl _ he) hf)⟩
  | scope c ih =>
    intro t σ k r h
    obtain ⟨e, t1, σ1, h1, h2⟩ := ih t σ k r h
    refine ⟨e, t1, σ1, h1, h2.1, fun ε a w Q he hf hg hfr hK => wp_scope_straight (h2.2 ε a w _ he hf hg hfr fun ε' a' w' s f => ?_)⟩
    have := hK ε' a' w' s f
    cases e <;> exact this
  | label l => exact fun t σ k r h => ⟨.normal, t, σ, h, Nat.le_refl _, fun ε a w Q he hf hg hfr hK => wp_label (hK ε a w (.refl _ he) hf)⟩
  | ret => exact fun t σ k r h => ⟨.ret, t, σ, h, Nat.le_refl _, fun ε a w Q he hf hg hfr hK => wp_ret (hK ε a w (.refl _ he) hf)⟩
  | _ => intro t σ k r h; cases h

theorem initFr_get : ∀ (l : List Value) (i : Nat) (t : Tr Value) (j : Nat), j < 65536 → i + l.length ≤ 65536 → fget j (initFr l i t) = if i ≤ j ∧ j < i + l.length then l[j - i]? else fget j t
  | [], i, t, j, _, _ => by
    rw [if_neg (by simp)]; rfl
  | v :: l, i, t, j, hj, hl => by
    have e := initFr_get l (i + 1) (Tr.set (pth 16 i) (some v) t) j hj (by simp at hl; omega)
    show fget j (initFr l (i + 1) (Tr.set (pth 16 i) (some v) t)) = _
    rw [e]
    simp only [List.length_cons] at hl ⊢
    by_cases h1 : j = i
    · subst h1
      rw [if_neg (by omega), if_pos (by omega), fget_set hj (by omega), if_pos rfl]; simp
    · by_cases h2 : i + 1 ≤ j ∧ j < i + 1 + l.length
      · rw [if_pos h2, if_pos (by omega)]
        obtain ⟨m, hm⟩ : ∃ m, j - i = m + 1 := ⟨j - i - 1, by omega⟩
        rw [hm, show j - (i + 1) = m by omega]; simp
      · rw [if_neg h2, if_neg (by omega), fget_set hj (by omega), if_neg h1]

theorem fget_nil (i : Nat) : fget i (.nil : Tr Value) = none := Tr.get_nil _

theorem initFr_ok {ε : Env} {args cargs : List Value} (h : RepL ε args cargs) {n : Nat} (hn : args.length ≤ n) (hn' : n < 65536) :
    FR ε n (initFr args 0 .nil) { tmps := (⟨cargs⟩ : Array Value) ++ Array.replicate (n - (⟨cargs⟩ : Array Value).size) undef, defers := [] } := by
  have hl := h.length
  refine ⟨by simp; omega, rfl, fun i v hi hv => ?_⟩
  rw [initFr_get args 0 .nil i hi (by omega)] at hv
  by_cases hc : 0 ≤ i ∧ i < 0 + args.length
  · rw [if_pos hc] at hv
    obtain ⟨cv, e1, e2⟩ := h.get (i := i) (by simpa using hv)
    refine ⟨cv, ?_, e2⟩
    have hlt : i < cargs.length := by omega
    simp only [Array.getElem?_append]
    rw [if_pos (by simpa using hlt)]
    simpa using e1
  · rw [if_neg hc, fget_nil] at hv; cases hv

def resOne (tmps : Array Value) (r : ResultVar) : Sem Value := match r with
  | .tmp t => pure (tmps.getD t undef)
  | .cell b t => do loadVar t (← asAddr (tmps.getD b undef))

theorem results_ok {ε : Env} {n : Nat} {σ : AHeap} {t : Tr Value} {a : Act} {w : World} (he : Emb ε σ.get w) (hf : FR ε n t a) : ∀ (l : List ResultVar) (vs : List Value), resultsK P l t σ = some vs →
    ∃ cvs, RepL ε vs cvs ∧ (l.mapM (resOne a.tmps)).run P w = .ok cvs w
  | [], vs, h => by obtain rfl := Option.some.inj (show some [] = some vs from h); exact ⟨[], .nil, by simp⟩
  | .tmp d :: l, vs, h => by
    have h' : ifb (Nat.blt d 65536) (fun (t : Tr Value) (σ : AHeap) => ob (fget d t) fun v => ob (resultsK P l t σ) fun l => some (v :: l)) (fun _ _ => none) t σ = some vs := h
    cases hd : Nat.blt d 65536
    · rw [hd] at h'; cases h'
    rw [hd, ifb_true] at h'
    obtain ⟨v, h1, h2⟩ := ob_eq_some h'
    obtain ⟨r, h3, h4⟩ := ob_eq_some h2
    obtain rfl := Option.some.inj h4
    obtain ⟨cv, e1, e2⟩ := hf.slot d v (by rwa [Nat.blt_eq] at hd) h1
    obtain ⟨cvs, e3, e4⟩ := results_ok he hf l r h3
    refine ⟨cv :: cvs, .cons e2 e3, ?_⟩
    have e5 : (resOne a.tmps (.tmp d)).run P w = .ok cv w := by simp [resOne, Array.getD_eq_getD_getElem?, e1]
    simp [List.mapM_cons, e5, e4]
  | .cell d ty :: l, vs, h => by
    have h' : ifb (Nat.blt d 65536) (fun (t : Tr Value) (σ : AHeap) => ob (fget d t) fun p => ob (cLoad P ty σ p) fun v => ob (resultsK P l t σ) fun l => some (v :: l)) (fun _ _ => none) t σ = some vs := h
    cases hd : Nat.blt d 65536
    · rw [hd] at h'; cases h'
    rw [hd, ifb_true] at h'
    obtain ⟨p, h1, h2⟩ := ob_eq_some h'
    obtain ⟨v, h3, h4⟩ := ob_eq_some h2
    obtain ⟨r, h5, h6⟩ := ob_eq_some h4
    obtain rfl := Option.some.inj h6
    obtain ⟨cp, e1, e2⟩ := hf.slot d p (by rwa [Nat.blt_eq] at hd) h1
    obtain ⟨cv, e3, e4⟩ := cLoad_ok (P := P) he h3 e2
    obtain ⟨cvs, e5, e6⟩ := results_ok he hf l r h5
    refine ⟨cv :: cvs, .cons e4 e5, ?_⟩
    have e7 : (resOne a.tmps (.cell d ty)).run P w = .ok cv w := by
      rw [← e3]
      simp only [resOne, Array.getD_eq_getD_getElem?, e1, Option.getD_some, Instr.loadAt]
      cases cp <;> try (simp [Instr.loadAt, Instr.sureAddr, stuck, Sem.run] at e3; done)
      rename_i x
      cases x with
      | none => simp [Instr.loadAt, Instr.sureAddr, stuck, Sem.run] at e3
      | some x => rfl
    simp [List.mapM_cons, e7, e6]

theorem tup_ok {ε : Env} {vs cvs : List Value} (h : RepL ε vs cvs) : Rep ε (tup vs) (if h : (⟨cvs⟩ : Array Value).size = 1 then (⟨cvs⟩ : Array Value)[0] else .tuple ⟨cvs⟩) := by
  cases h with
  | nil => exact .tuple .nil
  | cons h1 h2 => cases h2 with
    | nil => exact h1
    | cons h3 h4 =>
      rw [dif_neg (by simp)]
      exact .tuple (.cons h1 (.cons h3 h4))

theorem run_results {fn : Func} {tmps : Array Value} {cvs : List Value} {w : World} (h : (fn.results.toList.mapM (resOne tmps)).run P w = .ok cvs w) :
    (results fn tmps).run P w = .ok (if h : (⟨cvs⟩ : Array Value).size = 1 then (⟨cvs⟩ : Array Value)[0] else .tuple ⟨cvs⟩) w := by
  have e : (fn.results.mapM (resOne tmps)).run P w = .ok ⟨cvs⟩ w := by
    rw [Array.mapM_eq_mapM_toList]
    simp [h]
  unfold results
  have e2 : (fn.results.mapM fun r => match r with
    | .tmp t => (pure (tmps.getD t undef) : Sem Value)
    | .cell a t => do loadVar t (← asAddr (tmps.getD a undef))) = fn.results.mapM (resOne tmps) := by
    congr 1
  rw [Sem.run_bind]
  erw [e]
  simp

theorem func_ok {G n : Nat} {call : CallF} (hcall : CallsOk P G call) (hdraw : DrawOk P G n call) {L : Nat} {f : FuncId} {fn : Func} {c : Code} (hf : P.funcs[f]? = some fn) (hb : fn.body = some c) (hn : fn.ntmps = n) (hn' : n < 65536)
    {args : List Value} {σ : AHeap} {k : Value → AHeap → RR} {r : Value × AHeap} (h : funcK n (codeK P G n call L c) (resultsK P fn.results.toList) args σ k = some r) :
    ∃ v σ', k v σ' = some r ∧ CallOk P G f args σ v σ' := by
  obtain ⟨h1, h⟩ := ifb_eq_some h
  have h1 := Nat.le_of_ble_eq_true h1
  obtain ⟨e, t', σ', h2, h3⟩ := codeK_ok hcall hdraw L c (initFr args 0 .nil) σ _ r h
  have fin : (ob (resultsK P fn.results.toList t' σ') fun vs => k (tup vs) σ') = some r → (e = .normal ∨ e = .ret) → ∃ v σ', k v σ' = some r ∧ CallOk P G f args σ v σ' := by
    intro h he'
    obtain ⟨vs, h4, h5⟩ := ob_eq_some h
    refine ⟨tup vs, σ', h5, h3.1, fun ε cargs w he ha hg hfr => calls_of_wp hf hb ?_⟩
    rw [hn]
    refine h3.2 ε _ w _ he (initFr_ok ha h1 hn') hg hfr fun ε' a' w' s fr => ?_
    obtain ⟨cvs, q1, q2⟩ := results_ok (P := P) s.emb fr _ _ h4
    rcases he' with rfl | rfl
    · exact ⟨fr.defers, _, run_results q2, ε', tup_ok q1, s⟩
    · exact ⟨fr.defers, _, run_results q2, ε', tup_ok q1, s⟩
  cases e with
  | normal => exact fin h2 (.inl rfl)
  | ret => exact fin h2 (.inr rfl)
  | exit i => cases h2

def OrcOk (P : Program) (G : Nat) (orc : Orc) : Prop := ∀ f h, orc f = some h → ∀ args σ v σ', h args σ = some (v, σ') → CallOk P G f args σ v σ'

theorem evalF_ok {G : Nat} {orc : Orc} (ho : OrcOk P G orc) (hdraw : ∀ n call, CallsOk P G call → DrawOk P G n call) (L : Nat) : ∀ N, CallsOk P G (evalF P G orc L N)
  | 0 => fun f args σ k r h => by cases h
  | N + 1 => fun f args σ k r h => by
    have ih := evalF_ok ho hdraw L N
    have h' : (match orc f with
      | some h => fun args σ (k : Value → AHeap → RR) => ob (h args σ) fun r => k r.1 r.2
      | none =>
        match P.funcs[f]? with
        | none => fun _ _ _ => none
        | some fn =>
          match fn.body with
          | none => fun _ _ _ => none
          | some c => ifb (Nat.blt fn.ntmps 65536) (funcK fn.ntmps (codeK P G fn.ntmps (evalF P G orc L N) L c) (resultsK P fn.results.toList)) (fun _ _ _ => none)) args σ k = some r := h
    generalize hof : orc f = of at h'
    rcases of with _ | h0
    · dsimp only at h'
      generalize hff : P.funcs[f]? = ff at h'
      rcases ff with _ | fn
      · cases h'
      dsimp only at h'
      generalize hbb : fn.body = bb at h'
      rcases bb with _ | c
      · cases h'
      dsimp only at h'
      cases hn : Nat.blt fn.ntmps 65536
      · rw [hn] at h'; cases h'
      rw [hn, ifb_true] at h'
      exact func_ok ih (hdraw _ _ ih) hff hbb rfl (by rwa [Nat.blt_eq] at hn) h'
    · dsimp only at h'
      obtain ⟨⟨v, σ'⟩, h1, h2⟩ := ob_eq_some h'
      exact ⟨v, σ', h2, ho f h0 hof args σ v σ' h1⟩

theorem evalTop_ok {G : Nat} {orc : Orc} (ho : OrcOk P G orc) (hdraw : ∀ n call, CallsOk P G call → DrawOk P G n call) {L N : Nat} {f : FuncId} {args : List Value} {σ : AHeap} {v : Value} {σ' : AHeap} (h : evalTop P G orc L N f args σ = some (v, σ')) :
    CallOk P G f args σ v σ' := by
  obtain ⟨v', σ'', h1, h2⟩ := evalF_ok ho hdraw L N f args σ _ _ h
  obtain ⟨rfl, rfl⟩ := Prod.mk.inj (Option.some.inj h1)
  exact h2
end Go.Eng
