/- The engine: operations that only look. -/
import Derived.Test.YtlbhfjnlpfaioaaGreatDoorEngS7
namespace Go.Eng
open Go
variable {P : Program}

def Still (P : Program) (ε : Env) (w : World) (s : Sem Next) (r : AR) : Prop := ∃ v σ' cv, r = .val v σ' ∧ s.run P w = .ok (.value cv) w ∧ Rep ε v cv

theorem Still.value {ε : Env} {w : World} {σ : AHeap} {s : Sem Value} {v : Value} (h : ∃ cv, s.run P w = .ok cv w ∧ Rep ε v cv) : Still P ε w (do pure (.value (← s))) (.val v σ) := by
  obtain ⟨cv, h1, h2⟩ := h
  exact ⟨v, σ, cv, rfl, by simp [h1], h2⟩
theorem Still.congr {ε : Env} {w : World} {s s' : Sem Next} {r : AR} (h : Still P ε w s r) (e : s'.run P w = s.run P w) : Still P ε w s' r := by
  obtain ⟨v, σ', cv, h1, h2, h3⟩ := h
  exact ⟨v, σ', cv, h1, by rw [e]; exact h2, h3⟩

section
variable {ε : Env} {σ : AHeap} {w : World} {G n : Nat} {t : Tr Value} {a : Act}

theorem f1_still (hf : FR ε n t a) (hg : GOk ε G) {x : Operand} {f : Value → Option Value} {r : AR} {s : Value → Sem Value} (h : f1 (aval G x) f t σ = some r)
    (k : ∀ v cv u, f v = some u → Rep ε v cv → ∃ cu, (s cv).run P w = .ok cu w ∧ Rep ε u cu) : Still P ε w (do pure (.value (← s (a.eval x)))) r := by
  obtain ⟨v, h1, h⟩ := ob_eq_some h
  obtain ⟨u, h2, h⟩ := ob_eq_some h
  obtain rfl := Option.some.inj h
  exact .value (k _ _ _ h2 (aval_ok hf hg h1))

theorem f2_still (hf : FR ε n t a) (hg : GOk ε G) {x y : Operand} {f : Value → Value → Option Value} {r : AR} {s : Value → Value → Sem Value} (h : f2 (aval G x) (aval G y) f t σ = some r)
    (k : ∀ v cv u cu z, f v u = some z → Rep ε v cv → Rep ε u cu → ∃ cz, (s cv cu).run P w = .ok cz w ∧ Rep ε z cz) : Still P ε w (do pure (.value (← s (a.eval x) (a.eval y)))) r := by
  obtain ⟨v, h1, h⟩ := ob_eq_some h
  obtain ⟨u, h2, h⟩ := ob_eq_some h
  obtain ⟨z, h3, h⟩ := ob_eq_some h
  obtain rfl := Option.some.inj h
  exact .value (k _ _ _ _ _ h3 (aval_ok hf hg h1) (aval_ok hf hg h2))

theorem m1_still (hf : FR ε n t a) (hg : GOk ε G) {x : Operand} {f : AHeap → Value → Option Value} {r : AR} {s : Value → Sem Value} (h : m1 (aval G x) f t σ = some r)
    (k : ∀ v cv u, f σ v = some u → Rep ε v cv → ∃ cu, (s cv).run P w = .ok cu w ∧ Rep ε u cu) : Still P ε w (do pure (.value (← s (a.eval x)))) r := by
  obtain ⟨v, h1, h⟩ := ob_eq_some h
  obtain ⟨u, h2, h⟩ := ob_eq_some h
  obtain rfl := Option.some.inj h
  exact .value (k _ _ _ h2 (aval_ok hf hg h1))

theorem m2_still (hf : FR ε n t a) (hg : GOk ε G) {x y : Operand} {f : AHeap → Value → Value → Option Value} {r : AR} {s : Value → Value → Sem Value} (h : m2 (aval G x) (aval G y) f t σ = some r)
    (k : ∀ v cv u cu z, f σ v u = some z → Rep ε v cv → Rep ε u cu → ∃ cz, (s cv cu).run P w = .ok cz w ∧ Rep ε z cz) : Still P ε w (do pure (.value (← s (a.eval x) (a.eval y)))) r := by
  obtain ⟨v, h1, h⟩ := ob_eq_some h
  obtain ⟨u, h2, h⟩ := ob_eq_some h
  obtain ⟨z, h3, h⟩ := ob_eq_some h
  obtain rfl := Option.some.inj h
  exact .value (k _ _ _ _ _ h3 (aval_ok hf hg h1) (aval_ok hf hg h2))
end

def isStill (o : Op) : Prop := okind o = .pure ∨ okind o = .read

theorem cBuiltin_still {ε : Env} {σ : AHeap} {w : World} (he : Emb ε σ.get w) {b : Builtin} (hb : b = .len ∨ b = .cap ∨ b = .max ∨ b = .min) {ts : Array TypeId} {args cargs : List Value} {r : AR} (h : cBuiltin P b ts σ args = some r) (ha : RepL ε args cargs) (ty : TypeId) (cs : Array Bool) :
    Still P ε w (builtin b ts ty cs ⟨cargs⟩) r := by
  unfold cBuiltin at h
  generalize h0 : ts[0]? = o0 at h
  rcases hb with rfl | rfl | rfl | rfl
  · rcases o0 with _ | t
    · cases h
    dsimp only at h
    split at h
    · rename_i x
      obtain ⟨v, q1, rfl⟩ := vs1_some h
      cases ha with
      | cons h1 ha =>
        cases ha
        exact Still.value (lenOf_ok (P := P) he h0 q1 h1 ty)
    · cases h
  · rcases o0 with _ | t
    · cases h
    dsimp only at h
    split at h
    · rename_i x
      obtain ⟨v, q1, rfl⟩ := vs1_some h
      cases ha with
      | cons h1 ha =>
        cases ha
        exact Still.value (capOf_ok (P := P) h0 q1 h1 ty)
    · cases h
  · dsimp only at h
    split at h
    · obtain rfl := Option.some.inj h
      cases ha with
      | cons h1 ha => cases ha with
        | cons h2 ha =>
          cases ha; cases h1; cases h2
          exact Still.value ⟨_, by simp [Builtin.max_, Builtin.max2], .int _ _⟩
    · cases h
  · dsimp only at h
    split at h
    · obtain rfl := Option.some.inj h
      cases ha with
      | cons h1 ha => cases ha with
        | cons h2 ha =>
          cases ha; cases h1; cases h2
          exact Still.value ⟨_, by simp [Builtin.min_, Builtin.min2], .int _ _⟩
    · cases h

theorem aop_still {ε : Env} {σ : AHeap} {w : World} {G n : Nat} {t : Tr Value} {a : Act} (he : Emb ε σ.get w) (hf : FR ε n t a) (hg : GOk ε G) {o : Oper} (hs : isStill o.op) {r : AR} (h : aop P G o.op t σ = some r) :
    Still P ε w (execOp a.eval o) r := by
  obtain ⟨dst, op, ty, pos, after, guard⟩ := o
  unfold execOp
  dsimp only at h hs ⊢
  unfold aop at h
  split at h
  · exact (f1_still (P := P) (s := fun v => pure v) hf hg h fun v cv u hu hr => by obtain rfl := Option.some.inj hu; exact ⟨cv, rfl, hr⟩).congr (by simp)
  · exact (f1_still (P := P) (s := fun v => pure v) hf hg h fun v cv u hu hr => by obtain rfl := Option.some.inj hu; exact ⟨cv, rfl, hr⟩).congr (by simp)
  · rename_i c x y
    obtain ⟨v, h1, h⟩ := ob_eq_some h
    have hc := aval_ok hf hg h1
    split at h
    · obtain ⟨u, h2, h⟩ := ob_eq_some h
      obtain rfl := Option.some.inj h
      exact (Still.value (P := P) (s := pure (a.eval x)) ⟨_, rfl, aval_ok hf hg h2⟩).congr (by simp [hc.bool_inv, asBool])
    · obtain ⟨u, h2, h⟩ := ob_eq_some h
      obtain rfl := Option.some.inj h
      exact (Still.value (P := P) (s := pure (a.eval y)) ⟨_, rfl, aval_ok hf hg h2⟩).congr (by simp [hc.bool_inv, asBool])
    · cases h
  · rcases hs with e | e <;> simp [okind] at e
  · rcases hs with e | e <;> simp [okind] at e
  · rename_i ty' ps
    obtain ⟨l, h1, h⟩ := ob_eq_some h
    obtain ⟨u, h2, h⟩ := ob_eq_some h
    obtain rfl := Option.some.inj h
    refine (Still.value (cBuild_ok (P := P) h2 (aParts_ok hf hg h1) w)).congr ?_
    dsimp only
    rw [arr_map]
  · rcases hs with e | e <;> simp [okind] at e
  · exact m1_still hf hg h fun v cv u hu hr => cLoad_ok he hu hr
  · rcases hs with e | e <;> simp [okind] at e
  · rename_i x
    obtain ⟨v, h1, h⟩ := ob_eq_some h
    obtain ⟨u, h2, h⟩ := ob_eq_some h
    obtain rfl := Option.some.inj h
    have hx := aval_ok hf hg h1
    obtain ⟨rfl, q⟩ := nilC_ok hx h2
    refine (Still.value (P := P) (s := pure (a.eval x)) ⟨_, rfl, hx⟩).congr ?_
    rcases q with ⟨b, e⟩ | ⟨b, c, e⟩ | ⟨b, c, d, e⟩ <;> simp [e]
  · rename_i op ty' x y ty2
    exact f2_still (P := P) (s := fun u v => do eqGuard op ty' x y u v; binOp op ty' u v) hf hg h fun v cv u cu z hz hv hu => by
      obtain ⟨q1, cz, q2, q3⟩ := cBin_ok (P := P) hv hu hz x y rfl w
      exact ⟨cz, by simp [q1, q2], q3⟩
  · exact f1_still (P := P) hf hg h fun v cv u hu hr => oUn_ok hr hu w
  · exact m1_still (P := P) hf hg h fun v cv u hu hr => cConvH_ok he hr hu
  · exact f1_still (P := P) hf hg h fun v cv u hu hr => cS2a_ok hr hu w
  · exact f1_still (P := P) hf hg h fun v cv u hu hr => cIface_ok hr hu w
  · rename_i fn first captured
    obtain ⟨v, h1, rfl⟩ := vs1_some h
    have h1' : ifb (isPlainFn fn) (fun t => ob (avals G first.toList t) fun f => ob (avals G captured.toList t) fun c => some (.func fn ⟨f⟩ ⟨c⟩)) (fun _ => none) t = some v := h1
    cases hp : isPlainFn fn
    · rw [hp] at h1'; cases h1'
    rw [hp, ifb_true] at h1'
    obtain ⟨f, h2, h3⟩ := ob_eq_some h1'
    obtain ⟨c, h4, h5⟩ := ob_eq_some h3
    obtain rfl := Option.some.inj h5
    refine Still.value ⟨_, by simp [Instr.makeFunc]; rfl, ?_⟩
    rw [arr_map, arr_map]
    exact Rep.func (fn := fn) (avals_ok hf hg h2) (avals_ok hf hg h4)
  · rcases hs with e | e <;> simp [okind] at e
  · rcases hs with e | e <;> simp [okind] at e
  · obtain ⟨v, h1, h⟩ := ob_eq_some h
    obtain ⟨l, h2, h⟩ := ob_eq_some h
    obtain ⟨hi, h3, h⟩ := ob_eq_some h
    obtain ⟨m, h4, h⟩ := ob_eq_some h
    obtain ⟨u, h5, h⟩ := ob_eq_some h
    obtain rfl := Option.some.inj h
    exact Still.value (cSlice_ok (P := P) he h5 (aval_ok hf hg h1) (avalO_ok hf hg h2) (avalO_ok hf hg h3) (avalO_ok hf hg h4))
  · exact f1_still (P := P) hf hg h fun v cv u hu hr => cFieldAddr_ok hu hr w
  · exact f1_still (P := P) hf hg h fun v cv u hu hr => cField_ok hu hr w
  · exact f2_still (P := P) hf hg h fun v cv u cu z hz hv hu => cIndexAddr_ok hz hv hu w
  · exact f2_still (P := P) hf hg h fun v cv u cu z hz hv hu => cIndex_ok hz hv hu w
  · rename_i ty' m k ok
    exact m2_still (P := P) (s := fun u v => Instr.lookup ty' u v ok) hf hg h fun v cv u cu z hz hv hu => cLookup_ok he hz hv hu
  · rcases hs with e | e <;> simp [okind] at e
  · rcases hs with e | e <;> simp [okind] at e
  · rename_i x i
    refine f1_still (P := P) (s := fun v => Instr.extract v i) hf hg h fun v cv u hu hr => ?_
    unfold oExtract at hu
    split at hu
    · rename_i vs
      obtain ⟨vs⟩ := vs
      rw [nth_eq] at hu
      cases hr with
      | tuple hl =>
        obtain ⟨cu, e1, e2⟩ := hl.get hu
        exact ⟨cu, by simp [Instr.extract, e1], e2⟩
    · cases hu
  · rename_i c
    obtain ⟨callee, args, ats⟩ := c
    cases callee with
    | value x => rcases hs with e | e <;> simp [okind] at e
    | invoke recv name => rcases hs with e | e <;> simp [okind] at e
    | builtin b =>
      have hb : b = .len ∨ b = .cap ∨ b = .max ∨ b = .min := by
        cases b <;> first | exact .inl rfl | exact .inr (.inl rfl) | exact .inr (.inr (.inl rfl)) | exact .inr (.inr (.inr rfl)) | (rcases hs with e | e <;> simp [okind] at e)
      unfold cCall at h
      obtain ⟨vs, h1, h⟩ := ob_eq_some (show (ob (avals G args.toList t) fun args => cBuiltin P b ats σ args) = some r from h)
      have := cBuiltin_still (P := P) he hb h (avals_ok hf hg h1) ty (args.map fun x => match x with | .const _ => true | _ => false)
      rw [← arr_map] at this
      refine this.congr ?_
      simp only [resolve, pure_bind, invoke]
      rfl
  · cases h

theorem stillV_ok {ε : Env} {K : AHeap} {w : World} {G n : Nat} {t : Tr Value} {a : Act} (he : Emb ε K.get w) (hf : FR ε n t a) (hg : GOk ε G) {o : Oper} (hs : isStill o.op) {v : Value} (h : stillV (aop P G o.op) t K = some v)
    {N : Act → World → Prop} {Q : Exit → Act → World → Prop} (hN : ∀ cv, Rep ε v cv → N (a.put o.dst cv) w) : o.wp P a w N Q := by
  obtain ⟨r, h1, h⟩ := ob_eq_some h
  obtain ⟨v', σ', cv, rfl, h2, h3⟩ := aop_still (P := P) he hf hg hs h1
  obtain rfl := Option.some.inj h
  simp only [Oper.wp, h2, Oper.upon]
  exact hN cv h3

theorem stillS_ok {ε : Env} {K : AHeap} {w : World} {G n : Nat} {t : Tr Value} {a : Act} {ops : Array Oper} (he : Emb ε K.get w) (hf : FR ε n t a) (hg : GOk ε G) {o : Oper} (hs : isStill o.op) {v : Value} (h : stillS P G n ops.toList o t K = some v)
    {N : Act → World → Prop} {Q : Exit → Act → World → Prop} (hN : ∀ cv, Rep ε v cv → N (a.put o.dst cv) w) :
    if Region.wanted o (yielded ops a.tmps) then o.wp P a w N Q else N (a.put o.dst undef) w := by
  unfold stillS at h
  generalize hgd : o.guard = g at h
  rcases g with _ | ⟨j, want⟩
  · rw [if_pos (wanted_none hgd _)]
    exact stillV_ok he hf hg hs h hN
  · dsimp only at h
    generalize hj : nth j ops.toList = oj at h
    rcases oj with _ | oj
    · cases h
    dsimp only at h
    rw [nth_arr] at hj
    generalize hd : oj.dst = d at h
    rcases d with _ | d
    · cases h
    dsimp only at h
    cases hc : (Nat.blt d n && Nat.blt d 65536)
    · rw [hc] at h; cases h
    rw [hc, ifb_true] at h
    simp only [Bool.and_eq_true, Nat.blt_eq] at hc
    obtain ⟨u, h1, h⟩ := ob_eq_some h
    obtain ⟨cu, e1, e2⟩ := guard_ok hj hd hc.2 h1 hf
    cases u <;> try (cases h; done)
    case bool b =>
      dsimp only at h
      obtain rfl := e2.bool_inv
      cases hb : (b == want)
      · rw [hb, cond_false] at h
        obtain rfl := Option.some.inj h
        rw [if_neg (by simp only [Region.wanted, hgd, e1]; simpa using hb)]
        exact hN _ undef_rep
      · rw [hb, cond_true] at h
        rw [if_pos (by simp only [Region.wanted, hgd, e1]; simpa using hb)]
        exact stillV_ok he hf hg hs h hN
    case tuple vs =>
      obtain rfl := Option.some.inj h
      cases e2
      rw [if_neg (by simp [Region.wanted, hgd, e1])]
      exact hN _ undef_rep
end Go.Eng
