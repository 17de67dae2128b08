/- The engine: one operation. -/
import Derived.Test.YtlbhfjnlpfaioaaGreatDoorEngS5b
import Derived.Test.YtlbhfjnlpfaioaaGreatDoorEngD
namespace Go.Eng
open Go
variable {P : Program}

/-- The frame's slots. -/
structure FR (ε : Env) (n : Nat) (t : Tr Value) (a : Act) : Prop where
  size : a.tmps.size = n
  defers : a.defers = []
  slot : ∀ i v, i < 65536 → fget i t = some v → ∃ cv, a.tmps[i]? = some cv ∧ Rep ε v cv

theorem FR.mono {ε ε' : Env} (hl : ε.Le ε') {n : Nat} {t : Tr Value} {a : Act} (h : FR ε n t a) : FR ε' n t a :=
  ⟨h.size, h.defers, fun i v hi hv => let ⟨cv, h1, h2⟩ := h.slot i v hi hv; ⟨cv, h1, h2.mono hl⟩⟩

/-- The package variables have names of their own. -/
def GOk (ε : Env) (G : Nat) : Prop := ∀ g, g < G → ∃ c, ε.m g = some (some ⟨g, 0, none⟩, c)
theorem GOk.mono {ε ε' : Env} (hl : ε.Le ε') {G : Nat} (h : GOk ε G) : GOk ε' G := fun g hg => let ⟨c, h1⟩ := h g hg; ⟨c, hl.m _ _ h1⟩

theorem fget_set {i d : Nat} {v : Value} {t : Tr Value} (hi : i < 65536) (hd : d < 65536) : fget i (Tr.set (pth 16 d) (some v) t) = if i = d then some v else fget i t := by
  unfold fget
  by_cases e : i = d
  · subst e; rw [if_pos rfl, Tr.get_set_same]
  · rw [if_neg e, Tr.get_set_other _ _ _ _ (fun h => e (pth_inj 16 _ _ hi hd h))]

theorem FR.put {ε : Env} {n d : Nat} {t : Tr Value} {a : Act} {v cv : Value} (h : FR ε n t a) (hd : d < n) (hd' : d < 65536) (hv : Rep ε v cv) : FR ε n (Tr.set (pth 16 d) (some v) t) (a.put (some d) cv) := by
  refine ⟨by simp [Act.put, h.size], by simp [Act.put, h.defers], fun i u hi hu => ?_⟩
  rw [fget_set hi hd'] at hu
  by_cases e : i = d
  · subst e
    rw [if_pos rfl] at hu
    obtain rfl := Option.some.inj hu
    exact ⟨cv, by simp [Act.put, h.size, hd], hv⟩
  · rw [if_neg e] at hu
    obtain ⟨cu, h1, h2⟩ := h.slot i u hi hu
    exact ⟨cu, by simp [Act.put, Ne.symm e, h1], h2⟩

theorem aval_ok {ε : Env} {G n : Nat} {t : Tr Value} {a : Act} (hf : FR ε n t a) (hg : GOk ε G) {x : Operand} {v : Value} (h : aval G x t = some v) : Rep ε v (a.eval x) := by
  cases x with
  | tmp i =>
    have h' : ifb (Nat.blt i 65536) (fget i) (fun _ => none) t = some v := h
    cases hi : Nat.blt i 65536
    · rw [hi] at h'; cases h'
    · rw [hi, ifb_true] at h'
      obtain ⟨cv, h1, h2⟩ := hf.slot i v (by rwa [Nat.blt_eq] at hi) h'
      simpa [Act.eval, Array.getD_eq_getD_getElem?, h1] using h2
  | const u =>
    have h' : ifb (closedD 8 u) (fun _ => some u) (fun _ => none) t = some v := h
    cases hi : closedD 8 u
    · rw [hi] at h'; cases h'
    · rw [hi, ifb_true] at h'
      obtain rfl := Option.some.inj h'
      exact rep_closedD 8 _ hi
  | global g =>
    have h' : ifb (Nat.blt g G) (fun _ => some (.pointer (some ⟨g, 0, none⟩))) (fun _ => none) t = some v := h
    cases hi : Nat.blt g G
    · rw [hi] at h'; cases h'
    · rw [hi, ifb_true] at h'
      obtain rfl := Option.some.inj h'
      obtain ⟨c, hc⟩ := hg g (by rwa [Nat.blt_eq] at hi)
      exact Rep.ptr (a := ⟨g, 0, none⟩) hc
  | func f =>
    obtain rfl := Option.some.inj (show some (Value.func (.func f) #[] #[]) = some v from h)
    exact .func (f := []) (c := []) .nil .nil

theorem avals_ok {ε : Env} {G n : Nat} {t : Tr Value} {a : Act} (hf : FR ε n t a) (hg : GOk ε G) : ∀ {l : List Operand} {vs : List Value}, avals G l t = some vs → RepL ε vs (l.map a.eval)
  | [], vs, h => by obtain rfl := Option.some.inj h; exact .nil
  | x :: l, vs, h => by
    obtain ⟨v, h1, h⟩ := ob_eq_some (show (ob (aval G x t) fun v => ob (avals G l t) fun r => some (v :: r)) = some vs from h)
    obtain ⟨r, h2, h⟩ := ob_eq_some h
    obtain rfl := Option.some.inj h
    exact .cons (aval_ok hf hg h1) (avals_ok hf hg h2)

theorem aParts_ok {ε : Env} {G n : Nat} {t : Tr Value} {a : Act} (hf : FR ε n t a) (hg : GOk ε G) : ∀ {l : List (Nat × Operand)} {vs : List (Nat × Value)}, aParts G l t = some vs → RepP ε vs (l.map fun x => (x.1, a.eval x.2))
  | [], vs, h => by obtain rfl := Option.some.inj h; exact .nil
  | x :: l, vs, h => by
    obtain ⟨v, h1, h⟩ := ob_eq_some (show (ob (aval G x.2 t) fun v => ob (aParts G l t) fun r => some ((x.1, v) :: r)) = some vs from h)
    obtain ⟨r, h2, h⟩ := ob_eq_some h
    obtain rfl := Option.some.inj h
    exact .cons (aval_ok hf hg h1) (aParts_ok hf hg h2)

theorem avalO_ok {ε : Env} {G n : Nat} {t : Tr Value} {a : Act} (hf : FR ε n t a) (hg : GOk ε G) {x : Option Operand} {v : Option Value} (h : avalO G x t = some v) : RepO ε v (x.map a.eval) := by
  cases x with
  | none => obtain rfl := Option.some.inj (show some none = some v from h); exact .none
  | some y =>
    obtain ⟨u, h1, h2⟩ := ob_eq_some (show (ob (aval G y t) fun v => some (some v)) = some v from h)
    obtain rfl := Option.some.inj h2
    exact .some (aval_ok hf hg h1)

/-- What an operation has come to, in the model. -/
def OpOk (P : Program) (ε : Env) (σ : AHeap) (w : World) (s : Sem Next) : AR → Prop
  | .val v σ' => σ.next ≤ σ'.next ∧ ((∀ b, σ.next ≤ b → b < σ'.next → ε.m b = none) → ∃ ε' w' cv, s.run P w = .ok (.value cv) w' ∧ Rep ε' v cv ∧ Step σ.next σ'.next ε σ.get w ε' σ'.get w')
  | .skip σ' => σ.next ≤ σ'.next ∧ ∃ w', s.run P w = .ok .skip w' ∧ Step σ.next σ'.next ε σ.get w ε σ'.get w'
  | .enter f args => ∃ cargs, s.run P w = .ok (.enter f ⟨cargs⟩) w ∧ RepL ε args cargs

theorem OpOk.value {ε : Env} {σ : AHeap} {w : World} (he : Emb ε σ.get w) {s : Sem Value} {v : Value} (h : ∃ cv, s.run P w = .ok cv w ∧ Rep ε v cv) : OpOk P ε σ w (do pure (.value (← s))) (.val v σ) := by
  obtain ⟨cv, h1, h2⟩ := h
  exact ⟨Nat.le_refl _, fun _ => ⟨ε, w, cv, by simp [h1], h2, .refl _ he⟩⟩

theorem callFunc_enter {f : FuncId} (h : enterable P f = true) (args : Array Value) (w : World) : (callFunc f args).run P w = .ok (.enter f args) w := by
  unfold enterable at h
  split at h
  · cases h
  · rename_i fn hf
    simp only [Bool.and_eq_true, Bool.not_eq_true'] at h
    obtain ⟨h1, h2⟩ := h
    have h1' : ¬ fn.name = "runtime.NumGoroutine" := by simpa using h1
    have h2' : ¬ fn.body = none := by cases hb : fn.body <;> simp_all
    simp [callFunc, program, Sem.run, hf, h1', h2']

theorem closed_args {ε : Env} : ∀ {l l' : List Value}, l.all (closedD 8) = true → RepL ε l l' → l' = l
  | _, _, _, .nil => rfl
  | _, _, h, .cons h1 h2 => by
    simp only [List.all_cons, Bool.and_eq_true] at h
    rw [closed_same h.1 h1, closed_args h.2 h2]

theorem callA_ok {ε : Env} {σ : AHeap} {w : World} (he : Emb ε σ.get w) {f : FuncId} {args cargs : List Value} {r : AR} (h : callA P f σ args = some r) (ha : RepL ε args cargs) : OpOk P ε σ w (callFunc f ⟨cargs⟩) r := by
  have h' : ifb (enterable P f) (fun _ args => some (.enter f args)) (extern P f) σ args = some r := h
  cases hc : enterable P f
  · rw [hc, ifb_false] at h'
    unfold extern at h'
    cases ha' : args.all (closedD 8)
    · rw [ha'] at h'; cases h'
    rw [ha', cond_true] at h'
    obtain rfl := closed_args ha' ha
    split at h'
    · rename_i v hp
      cases hv : closedD 8 v
      · rw [hv] at h'; cases h'
      rw [hv, cond_true] at h'
      obtain rfl := Option.some.inj h'
      exact ⟨Nat.le_refl _, fun _ => ⟨ε, w, v, peek_run hp w, rep_closedD 8 v hv, .refl _ he⟩⟩
    · cases h'
  · rw [hc, ifb_true] at h'
    obtain rfl := Option.some.inj h'
    exact ⟨cargs, callFunc_enter hc _ w, ha⟩

theorem OpOk.congr {ε : Env} {σ : AHeap} {w : World} {s s' : Sem Next} {r : AR} (h : OpOk P ε σ w s r) (e : s'.run P w = s.run P w) : OpOk P ε σ w s' r := by
  cases r with
  | val v σ' => exact ⟨h.1, fun q => by rw [e]; exact h.2 q⟩
  | skip σ' => exact ⟨h.1, by rw [e]; exact h.2⟩
  | enter f args => show ∃ _, _; rw [e]; exact h
theorem methodOf_ok {name : String} {t : TypeId} {f : FuncId} (h : methodOf P name t = some f) (v : Value) (n : Nat) (w : World) : (method (n + 1) t v name).run P w = .ok (f, v) w := by
  unfold methodOf at h
  split at h
  · rename_i i d hi hd
    split at h
    · rename_i m hm
      split at h
      · rename_i f' pr hp hf
        have hpath : m.path.toList = [] := by simpa [Array.isEmpty] using hp
        cases hc : (isPtrD d == pr)
        · rw [hc] at h; cases h
        rw [hc, cond_true] at h
        obtain rfl := Option.some.inj h
        have hty : (typeInfo t).run P w = .ok i w := by simp [typeInfo, program, Sem.run, hi]
        simp only [beq_iff_eq] at hc
        have hr : ∀ wr, (receiverAt t (.val v) pr wr).run P w = .ok v w := by
          intro wr
          subst hc; cases d <;> simp [isPtrD, receiverAt, run_underlying hd, Place.get]
        simp [method, hty, hm, hf, follow, hpath, hr]
      · cases h
    · cases h
  · cases h

theorem callI_ok {ε : Env} {σ : AHeap} {w : World} (he : Emb ε σ.get w) {name : String} {recv crecv : Value} {args cargs : List Value} {r : AR} (h : callI P name σ recv args = some r) (hr : Rep ε recv crecv) (ha : RepL ε args cargs) :
    OpOk P ε σ w (callMethod crecv name ⟨cargs⟩) r := by
  unfold callI at h
  split at h
  · rename_i t v
    obtain ⟨f, h1, h2⟩ := ob_eq_some h
    cases hr with
    | iface hv =>
      rename_i v'
      refine (callA_ok (P := P) he h2 (.cons hv ha)).congr ?_
      have e : ∃ k, P.types.size + Made.depth = k + 1 := ⟨P.types.size + Made.depth - 1, by have : 0 < Made.depth := by decide
                                                                                            omega⟩
      obtain ⟨k, e⟩ := e
      simp [callMethod, program, Sem.run, e, methodOf_ok h1]
  · cases h

theorem callV_ok {ε : Env} {σ : AHeap} {w : World} (he : Emb ε σ.get w) {f cf : Value} {args cargs : List Value} {r : AR} (h : callV P σ f args = some r) (hr : Rep ε f cf) (ha : RepL ε args cargs) :
    OpOk P ε σ w (do let d ← Deferred.ofValue cf ⟨cargs⟩; invoke d.target d.args) r := by
  unfold callV at h
  split at h
  · rename_i f' first captured
    obtain ⟨first⟩ := first
    obtain ⟨captured⟩ := captured
    cases hr with
    | func h1 h2 =>
      rename_i ff cc
      refine (callA_ok (P := P) he h ((h1.append ha).append h2)).congr ?_
      simp [Deferred.ofValue, invoke]
  · cases h
end Go.Eng
