/- The engine: the builtins, one operation whole. -/
import Derived.Test.YtlbhfjnlpfaioaaGreatDoorEngS6
namespace Go.Eng
open Go
variable {P : Program}

theorem cBuiltin_ok {ε : Env} {σ : AHeap} {w : World} (he : Emb ε σ.get w) {b : Builtin} {ts : Array TypeId} {args cargs : List Value} {r : AR} (h : cBuiltin P b ts σ args = some r) (ha : RepL ε args cargs) (ty : TypeId) (cs : Array Bool) :
    OpOk P ε σ w (builtin b ts ty cs ⟨cargs⟩) r := by
  unfold cBuiltin at h
  generalize h0 : ts[0]? = o0 at h
  cases b
  case append =>
    rcases o0 with _ | t
    · cases h
    dsimp only at h
    split at h
    · rename_i s x
      cases ha with
      | cons h1 ha => cases ha with
        | cons h2 ha =>
          cases ha
          rename_i cs' cx
          obtain ⟨v, σ', rfl, q1, q2⟩ := cAppend_ok (P := P) he h0 h h1 h2 ty
          refine ⟨q1, fun hf => ?_⟩
          obtain ⟨ε', w', cv, e1, e2, e3⟩ := q2 hf
          refine ⟨ε', w', cv, ?_, e2, e3⟩
          have e1' : (Builtin.append_ ts ty ⟨[cs', cx]⟩).run P w = .ok cv w' := e1
          simp [builtin, e1']
    · cases h
  case copy =>
    rcases o0 with _ | t
    · cases h
    dsimp only at h
    split at h
    · rename_i s x
      cases ha with
      | cons h1 ha => cases ha with
        | cons h2 ha =>
          cases ha
          rename_i cs' cx
          obtain ⟨v, σ', rfl, q1, w', cv, e1, e2, e3⟩ := cCopy_ok (P := P) he h0 h h1 h2 ty
          refine ⟨by omega, fun _ => ⟨ε, w', cv, ?_, e2, by rw [q1]; exact e3⟩⟩
          have e1' : (Builtin.copy_ ts ty ⟨[cs', cx]⟩).run P w = .ok cv w' := e1
          simp [builtin, e1']
    · cases h
  case len =>
    rcases o0 with _ | t
    · cases h
    dsimp only at h
    split at h
    · rename_i x
      obtain ⟨v, q1, rfl⟩ := vs1_some h
      cases ha with
      | cons h1 ha =>
        cases ha
        rename_i cx
        exact OpOk.value he (lenOf_ok (P := P) he h0 q1 h1 ty)
    · cases h
  case cap =>
    rcases o0 with _ | t
    · cases h
    dsimp only at h
    split at h
    · rename_i x
      obtain ⟨v, q1, rfl⟩ := vs1_some h
      cases ha with
      | cons h1 ha =>
        cases ha
        rename_i cx
        exact OpOk.value he (capOf_ok (P := P) h0 q1 h1 ty)
    · cases h
  case max =>
    dsimp only at h
    split at h
    · rename_i k x k' y
      obtain rfl := Option.some.inj h
      cases ha with
      | cons h1 ha => cases ha with
        | cons h2 ha =>
          cases ha; cases h1; cases h2
          exact OpOk.value he ⟨_, by simp [Builtin.max_, Builtin.max2], .int _ _⟩
    · cases h
  case min =>
    dsimp only at h
    split at h
    · rename_i k x k' y
      obtain rfl := Option.some.inj h
      cases ha with
      | cons h1 ha => cases ha with
        | cons h2 ha =>
          cases ha; cases h1; cases h2
          exact OpOk.value he ⟨_, by simp [Builtin.min_, Builtin.min2], .int _ _⟩
    · cases h
  all_goals (cases h)

section
variable {ε : Env} {σ : AHeap} {w : World} {G n : Nat} {t : Tr Value} {a : Act}

theorem f1_ok (he : Emb ε σ.get w) (hf : FR ε n t a) (hg : GOk ε G) {x : Operand} {f : Value → Option Value} {r : AR} {s : Value → Sem Value} (h : f1 (aval G x) f t σ = some r)
    (k : ∀ v cv u, f v = some u → Rep ε v cv → ∃ cu, (s cv).run P w = .ok cu w ∧ Rep ε u cu) : OpOk P ε σ w (do pure (.value (← s (a.eval x)))) r := by
  obtain ⟨v, h1, h⟩ := ob_eq_some h
  obtain ⟨u, h2, h⟩ := ob_eq_some h
  obtain rfl := Option.some.inj h
  exact .value he (k _ _ _ h2 (aval_ok hf hg h1))

theorem f2_ok (he : Emb ε σ.get w) (hf : FR ε n t a) (hg : GOk ε G) {x y : Operand} {f : Value → Value → Option Value} {r : AR} {s : Value → Value → Sem Value} (h : f2 (aval G x) (aval G y) f t σ = some r)
    (k : ∀ v cv u cu z, f v u = some z → Rep ε v cv → Rep ε u cu → ∃ cz, (s cv cu).run P w = .ok cz w ∧ Rep ε z cz) : OpOk P ε σ w (do pure (.value (← s (a.eval x) (a.eval y)))) r := by
  obtain ⟨v, h1, h⟩ := ob_eq_some h
  obtain ⟨u, h2, h⟩ := ob_eq_some h
  obtain ⟨z, h3, h⟩ := ob_eq_some h
  obtain rfl := Option.some.inj h
  exact .value he (k _ _ _ _ _ h3 (aval_ok hf hg h1) (aval_ok hf hg h2))

theorem m1_ok (he : Emb ε σ.get w) (hf : FR ε n t a) (hg : GOk ε G) {x : Operand} {f : AHeap → Value → Option Value} {r : AR} {s : Value → Sem Value} (h : m1 (aval G x) f t σ = some r)
    (k : ∀ v cv u, f σ v = some u → Rep ε v cv → ∃ cu, (s cv).run P w = .ok cu w ∧ Rep ε u cu) : OpOk P ε σ w (do pure (.value (← s (a.eval x)))) r := by
  obtain ⟨v, h1, h⟩ := ob_eq_some h
  obtain ⟨u, h2, h⟩ := ob_eq_some h
  obtain rfl := Option.some.inj h
  exact .value he (k _ _ _ h2 (aval_ok hf hg h1))

theorem m2_ok (he : Emb ε σ.get w) (hf : FR ε n t a) (hg : GOk ε G) {x y : Operand} {f : AHeap → Value → Value → Option Value} {r : AR} {s : Value → Value → Sem Value} (h : m2 (aval G x) (aval G y) f t σ = some r)
    (k : ∀ v cv u cu z, f σ v u = some z → Rep ε v cv → Rep ε u cu → ∃ cz, (s cv cu).run P w = .ok cz w ∧ Rep ε z cz) : OpOk P ε σ w (do pure (.value (← s (a.eval x) (a.eval y)))) r := by
  obtain ⟨v, h1, h⟩ := ob_eq_some h
  obtain ⟨u, h2, h⟩ := ob_eq_some h
  obtain ⟨z, h3, h⟩ := ob_eq_some h
  obtain rfl := Option.some.inj h
  exact .value he (k _ _ _ _ _ h3 (aval_ok hf hg h1) (aval_ok hf hg h2))

theorem new_ok {s : Sem Value} {v : Value} {σ' : AHeap} (hn : σ'.next = σ.next + 1) (h : ε.m σ.next = none → ∃ ε' w' cv, s.run P w = .ok cv w' ∧ Rep ε' v cv ∧ Step σ.next (σ.next + 1) ε σ.get w ε' σ'.get w') :
    OpOk P ε σ w (do pure (.value (← s))) (.val v σ') := by
  refine ⟨by omega, fun hf => ?_⟩
  obtain ⟨ε', w', cv, h1, h2, h3⟩ := h (hf _ (Nat.le_refl _) (by omega))
  exact ⟨ε', w', cv, by simp [h1], h2, by rw [hn]; exact h3⟩
end

theorem run_newVar_box {ε : Env} {σ : AHeap} {w : World} (he : Emb ε σ.get w) {v cv : Value} {r : AR} (h : aNew σ v = some r) (hv : Rep ε v cv) (t : TypeId) : OpOk P ε σ w (do pure (.value (← Instr.box t cv))) r := by
  obtain ⟨σ', rfl, q1, q2⟩ := aNew_ok (P := P) he h hv t
  refine new_ok q1 fun hf => ?_
  obtain ⟨ε', w', e1, e2, e3⟩ := q2 hf
  exact ⟨ε', w', _, by simp [Instr.box, e1], e2, e3⟩

theorem arr_map {α β : Type} (f : α → β) (a : Array α) : a.map f = ⟨a.toList.map f⟩ := by
  apply Array.ext'; simp

theorem aop_ok {ε : Env} {σ : AHeap} {w : World} {G n : Nat} {t : Tr Value} {a : Act} (he : Emb ε σ.get w) (hf : FR ε n t a) (hg : GOk ε G) {o : Oper} {r : AR} (h : aop P G o.op t σ = some r) :
    OpOk P ε σ w (execOp a.eval o) r := by
  obtain ⟨dst, op, ty, pos, after, guard⟩ := o
  unfold execOp
  dsimp only at h ⊢
  unfold aop at h
  split at h
  · exact (f1_ok (P := P) (s := fun v => pure v) he hf hg h fun v cv u hu hr => by obtain rfl := Option.some.inj hu; exact ⟨cv, rfl, hr⟩).congr (by simp)
  · exact (f1_ok (P := P) (s := fun v => pure v) he hf hg h fun v cv u hu hr => by obtain rfl := Option.some.inj hu; exact ⟨cv, rfl, hr⟩).congr (by simp)
  · rename_i c x y
    obtain ⟨v, h1, h⟩ := ob_eq_some h
    have hc := aval_ok hf hg h1
    split at h
    · obtain ⟨u, h2, h⟩ := ob_eq_some h
      obtain rfl := Option.some.inj h
      exact (OpOk.value (P := P) (s := pure (a.eval x)) he ⟨_, rfl, aval_ok hf hg h2⟩).congr (by simp [hc.bool_inv, asBool])
    · obtain ⟨u, h2, h⟩ := ob_eq_some h
      obtain rfl := Option.some.inj h
      exact (OpOk.value (P := P) (s := pure (a.eval y)) he ⟨_, rfl, aval_ok hf hg h2⟩).congr (by simp [hc.bool_inv, asBool])
    · cases h
  · rename_i ty'
    unfold alc at h
    generalize hz : zeroOf P ty' = oz at h
    rcases oz with _ | z
    · cases h
    · refine (run_newVar_box (P := P) he h (zero_rep hz) ty').congr ?_
      simp [Instr.alloc, Instr.box, (run_zeroValue hz w).1]
  · obtain ⟨v, h1, h⟩ := ob_eq_some h
    exact run_newVar_box he h (aval_ok hf hg h1) _
  · rename_i ty' ps
    obtain ⟨l, h1, h⟩ := ob_eq_some h
    obtain ⟨u, h2, h⟩ := ob_eq_some h
    obtain rfl := Option.some.inj h
    refine (OpOk.value he (cBuild_ok (P := P) h2 (aParts_ok hf hg h1) w)).congr ?_
    dsimp only
    rw [arr_map]
  · rename_i ty' len ps
    obtain ⟨l, h1, h⟩ := ob_eq_some h
    obtain ⟨σ', v, rfl, q1, q2⟩ := cBuildSlice_ok (P := P) he h (aParts_ok hf hg h1)
    refine (new_ok q1 q2).congr ?_
    dsimp only
    rw [arr_map]
  · exact m1_ok he hf hg h fun v cv u hu hr => cLoad_ok he hu hr
  · obtain ⟨v, h1, h⟩ := ob_eq_some h
    obtain ⟨u, h2, h⟩ := ob_eq_some h
    obtain ⟨σ', h3, h⟩ := ob_eq_some h
    obtain rfl := Option.some.inj h
    obtain ⟨w', e1, e2⟩ := cStore_ok (P := P) he h3 (aval_ok hf hg h1) (aval_ok hf hg h2)
    exact ⟨e2.up, w', by simp [e1], e2⟩
  · rename_i x
    obtain ⟨v, h1, h⟩ := ob_eq_some h
    obtain ⟨u, h2, h⟩ := ob_eq_some h
    obtain rfl := Option.some.inj h
    have hx := aval_ok hf hg h1
    obtain ⟨rfl, q⟩ := nilC_ok hx h2
    refine (OpOk.value (P := P) (s := pure (a.eval x)) he ⟨_, rfl, hx⟩).congr ?_
    rcases q with ⟨b, e⟩ | ⟨b, c, e⟩ | ⟨b, c, d, e⟩ <;> simp [e]
  · rename_i op ty' x y ty2
    exact f2_ok (P := P) (s := fun u v => do eqGuard op ty' x y u v; binOp op ty' u v) he hf hg h fun v cv u cu z hz hv hu => by
      obtain ⟨q1, cz, q2, q3⟩ := cBin_ok (P := P) hv hu hz x y rfl w
      exact ⟨cz, by simp [q1, q2], q3⟩
  · exact f1_ok (P := P) he hf hg h fun v cv u hu hr => oUn_ok hr hu w
  · exact m1_ok (P := P) he hf hg h fun v cv u hu hr => cConvH_ok he hr hu
  · exact f1_ok (P := P) he hf hg h fun v cv u hu hr => cS2a_ok hr hu w
  · exact f1_ok (P := P) he hf hg h fun v cv u hu hr => cIface_ok hr hu w
  · rename_i fn first captured
    obtain ⟨v, h1, rfl⟩ := vs1_some h
    have h1' : ifb (isPlainFn fn) (fun t => ob (avals G first.toList t) fun f => ob (avals G captured.toList t) fun c => some (.func fn ⟨f⟩ ⟨c⟩)) (fun _ => none) t = some v := h1
    cases hp : isPlainFn fn
    · rw [hp] at h1'; cases h1'
    rw [hp, ifb_true] at h1'
    obtain ⟨f, h2, h3⟩ := ob_eq_some h1'
    obtain ⟨c, h4, h5⟩ := ob_eq_some h3
    obtain rfl := Option.some.inj h5
    refine OpOk.value he ⟨_, by simp [Instr.makeFunc]; rfl, ?_⟩
    rw [arr_map, arr_map]
    exact Rep.func (fn := fn) (avals_ok hf hg h2) (avals_ok hf hg h4)
  · obtain ⟨σ', e1, e2, e3⟩ := push_some (show push σ (.map [] 0) _ = some r from h)
    obtain rfl := Option.some.inj e3
    refine new_ok e2 fun hfr => ?_
    have hs := Step.new_block (w := w) he hfr (.map #[] 0) 0 (.map [] 0) rfl ⟨_, _, #[], Env.upd_self _ _ _, by simp, .nil⟩
    rw [← e1] at hs
    refine ⟨_, _, _, (show (Instr.makeMap _ none).run P w = .ok (.map (some w.heap.size)) { w with heap := w.heap.push (.map #[] 0) } by simp [Instr.makeMap, newObj, Sem.run]), ?_, hs⟩
    exact Rep.map (a := ⟨w.heap.size, 0, none⟩) (Env.upd_self _ _ _)
  · obtain ⟨v, h1, h⟩ := ob_eq_some h
    obtain ⟨u, h2, h⟩ := ob_eq_some h
    obtain ⟨σ', v', rfl, q1, q2⟩ := cMakeSlice_ok (P := P) he h (aval_ok hf hg h1) (aval_ok hf hg h2)
    exact new_ok q1 q2
  · obtain ⟨v, h1, h⟩ := ob_eq_some h
    obtain ⟨l, h2, h⟩ := ob_eq_some h
    obtain ⟨hi, h3, h⟩ := ob_eq_some h
    obtain ⟨m, h4, h⟩ := ob_eq_some h
    obtain ⟨u, h5, h⟩ := ob_eq_some h
    obtain rfl := Option.some.inj h
    exact OpOk.value he (cSlice_ok (P := P) he h5 (aval_ok hf hg h1) (avalO_ok hf hg h2) (avalO_ok hf hg h3) (avalO_ok hf hg h4))
  · exact f1_ok (P := P) he hf hg h fun v cv u hu hr => cFieldAddr_ok hu hr w
  · exact f1_ok (P := P) he hf hg h fun v cv u hu hr => cField_ok hu hr w
  · exact f2_ok (P := P) he hf hg h fun v cv u cu z hz hv hu => cIndexAddr_ok hz hv hu w
  · exact f2_ok (P := P) he hf hg h fun v cv u cu z hz hv hu => cIndex_ok hz hv hu w
  · rename_i ty' m k ok
    exact m2_ok (P := P) (s := fun u v => Instr.lookup ty' u v ok) he hf hg h fun v cv u cu z hz hv hu => cLookup_ok he hz hv hu
  · obtain ⟨v, h1, h⟩ := ob_eq_some h
    obtain ⟨u, h2, h⟩ := ob_eq_some h
    obtain ⟨x, h3, h⟩ := ob_eq_some h
    obtain ⟨σ', h4, h⟩ := ob_eq_some h
    obtain rfl := Option.some.inj h
    obtain ⟨w', e1, e2⟩ := cMapUpdate_ok (P := P) he h4 (aval_ok hf hg h1) (aval_ok hf hg h2) (aval_ok hf hg h3)
    exact ⟨e2.up, w', by simp [e1], e2⟩
  · obtain ⟨v, h1, h⟩ := ob_eq_some h
    obtain ⟨u, h2, h⟩ := ob_eq_some h
    obtain ⟨x, h3, h⟩ := ob_eq_some h
    obtain ⟨σ', h4, h⟩ := ob_eq_some h
    obtain rfl := Option.some.inj h
    obtain ⟨w', e1, e2⟩ := cMapUpdate_ok (P := P) he h4 (aval_ok hf hg h1) (aval_ok hf hg h2) (aval_ok hf hg h3)
    exact ⟨e2.up, w', by simp [e1], e2⟩
  · rename_i x i
    refine f1_ok (P := P) (s := fun v => Instr.extract v i) he hf hg h fun v cv u hu hr => ?_
    unfold oExtract at hu
    split at hu
    · rename_i vs
      obtain ⟨vs⟩ := vs
      rw [nth_eq] at hu
      cases hr with
      | tuple hl =>
        obtain ⟨cu, e1, e2⟩ := hl.get hu
        exact ⟨cu, by simp [Instr.extract, e1], e2⟩
    · cases hu
  · rename_i c
    obtain ⟨callee, args, ats⟩ := c
    have val : ∀ x, callee = .value x → (ob (aval G x t) fun f => ob (avals G args.toList t) fun vs => callV P σ f vs) = some r → OpOk P ε σ w (do let d ← resolve a.eval { callee := .value x, args := args, argTypes := ats } ty; invoke d.target d.args) r := by
      intro x _ h
      obtain ⟨fv, h1, h⟩ := ob_eq_some h
      obtain ⟨vs, h2, h⟩ := ob_eq_some h
      refine (callV_ok (P := P) he h (aval_ok hf hg h1) (avals_ok hf hg h2)).congr ?_
      simp [resolve, arr_map]
    cases callee with
    | value x =>
      cases x with
      | func f =>
        obtain ⟨vs, h1, h⟩ := ob_eq_some (show (ob (avals G args.toList t) fun args => callA P f σ args) = some r from h)
        refine (callA_ok (P := P) he h (avals_ok hf hg h1)).congr ?_
        simp [resolve, Act.eval, Deferred.ofValue, invoke, arr_map]
      | tmp i => exact val _ rfl h
      | const v => exact val _ rfl h
      | global g => exact val _ rfl h
    | invoke recv name =>
      obtain ⟨fv, h1, h⟩ := ob_eq_some (show (ob (aval G recv t) fun f => ob (avals G args.toList t) fun vs => callI P name σ f vs) = some r from h)
      obtain ⟨vs, h2, h⟩ := ob_eq_some h
      refine (callI_ok (P := P) he h (aval_ok hf hg h1) (avals_ok hf hg h2)).congr ?_
      simp [resolve, invoke, arr_map]
      rw [List.take_of_length_le (by simp)]
    | builtin b =>
      obtain ⟨vs, h1, h⟩ := ob_eq_some (show (ob (avals G args.toList t) fun args => cBuiltin P b ats σ args) = some r from h)
      have := cBuiltin_ok (P := P) he h (avals_ok hf hg h1) ty (args.map fun x => match x with | .const _ => true | _ => false)
      rw [← arr_map] at this
      refine this.congr ?_
      simp only [resolve, pure_bind, invoke]
      rfl
  · cases h
end Go.Eng
