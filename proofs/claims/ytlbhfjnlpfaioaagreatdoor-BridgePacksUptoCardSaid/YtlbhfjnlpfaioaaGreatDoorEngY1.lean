/- The engine with open data: the rules by which a function's code is gone through, its calls by their contracts. -/
import Derived.Test.YtlbhfjnlpfaioaaGreatDoorEngS12
namespace Go.Eng
open Go
variable {P : Program} {G n : Nat} {call : CallF} {all : List Oper}

/- frames -/
noncomputable def put (d : Nat) (v : Value) (t : Tr Value) : Tr Value := Tr.set (pth 16 d) (some v) t
theorem fget_put {i d : Nat} {v : Value} {t : Tr Value} (hi : i < 65536) (hd : d < 65536) : fget i (put d v t) = if i = d then some v else fget i t := fget_set hi hd
theorem initFr_nil {i : Nat} {t : Tr Value} : initFr [] i t = t := _root_.id rfl
theorem initFr_cons {v : Value} {l : List Value} {i : Nat} {t : Tr Value} : initFr (v :: l) i t = initFr l (i + 1) (put i v t) := _root_.id rfl
theorem restr_nil {t : Tr Value} : restr t [] = .nil := _root_.id rfl
theorem restr_cons {t : Tr Value} {s : Nat} {l : List Nat} {v : Value} (h : fget s t = some v) : restr t (s :: l) = put s v (restr t l) := by
  show (Option.rec (restr t l) (fun v => Tr.set (pth 16 s) (some v) (restr t l)) (fget s t) : Tr Value) = _
  rw [h]; rfl
theorem restr_cons_none {t : Tr Value} {s : Nat} {l : List Nat} (h : fget s t = none) : restr t (s :: l) = restr t l := by
  show (Option.rec (restr t l) (fun v => Tr.set (pth 16 s) (some v) (restr t l)) (fget s t) : Tr Value) = _
  rw [h]

/- heaps -/
noncomputable def AHeap.push (σ : AHeap) (x : ABlk) : AHeap := { t := Tr.set (pthN σ.next) (some x) σ.t, next := σ.next + 1 }
theorem AHeap.get_push {σ : AHeap} {x : ABlk} {b : Nat} : (σ.push x).get b = if b = σ.next then some x else σ.get b := by
  have := AHeap.get_set (b := σ.next) { t := σ.t, next := σ.next + 1 } (some x)
  have := congrFun this b
  simp only [AMap.set] at this
  exact this
theorem AHeap.next_push {σ : AHeap} {x : ABlk} : (σ.push x).next = σ.next + 1 := _root_.id rfl
theorem AHeap.get_set' {σ : AHeap} {b c : Nat} {v : Option ABlk} : (σ.set b v).get c = if c = b then v else σ.get c := by
  rw [AHeap.get_set]; rfl
theorem AHeap.next_set {σ : AHeap} {b : Nat} {v : Option ABlk} : (σ.set b v).next = σ.next := _root_.id rfl
theorem push_eq {α : Type} {σ : AHeap} {x : ABlk} {f : Nat → AHeap → Option α} : Go.Eng.push σ x f = f σ.next (σ.push x) := _root_.id rfl
noncomputable def AHeap.skip (σ : AHeap) (m : Nat) : AHeap := { t := σ.t, next := σ.next + m }
theorem AHeap.get_skip {σ : AHeap} {m b : Nat} : (σ.skip m).get b = σ.get b := _root_.id rfl
theorem AHeap.next_skip {σ : AHeap} {m : Nat} : (σ.skip m).next = σ.next + m := _root_.id rfl

/-- ever so many rounds -/
def LL : Nat := 1180591620717411303424

/- what a piece of a run comes to -/
def EvV (m : (Value → AHeap → RR) → RR) (Q : Value → AHeap → Prop) : Prop := ∃ v σ', (∀ k, m k = k v σ') ∧ Q v σ'
def EvT (m : (Tr Value → AHeap → RR) → RR) (Q : Tr Value → AHeap → Prop) : Prop := ∃ t σ', (∀ k, m k = k t σ') ∧ Q t σ'
def EvX (m : (AEx → Tr Value → AHeap → RR) → RR) (Q : AEx → Tr Value → AHeap → Prop) : Prop := ∃ e t σ', (∀ k, m k = k e t σ') ∧ Q e t σ'

theorem EvX.mono {m : (AEx → Tr Value → AHeap → RR) → RR} {Q Q' : AEx → Tr Value → AHeap → Prop} (h : EvX m Q) (k : ∀ e t σ, Q e t σ → Q' e t σ) : EvX m Q' :=
  let ⟨e, t, σ, h1, h2⟩ := h; ⟨e, t, σ, h1, k e t σ h2⟩

abbrev EvC (P : Program) (G n : Nat) (call : CallF) (c : Code) (t : Tr Value) (σ : AHeap) (Q : AEx → Tr Value → AHeap → Prop) : Prop := EvX (codeK P G n call LL c t σ) Q
abbrev EvL (P : Program) (G n : Nat) (call : CallF) (all l : List Oper) (t : Tr Value) (σ : AHeap) (Q : Tr Value → AHeap → Prop) : Prop := EvT (runOps P G n call all l t σ) Q
abbrev EvS (P : Program) (G n : Nat) (call : CallF) (all : List Oper) (o : Oper) (t : Tr Value) (σ : AHeap) (Q : Value → AHeap → Prop) : Prop := EvV (stepV P G n call all o t σ) Q
abbrev EvD (P : Program) (G n : Nat) (call : CallF) (all : List Oper) (b0 : Nat) (is : List DI) (t : Tr Value) (σ : AHeap) (rd : List RdE) (Q : Tr Value → AHeap → Prop) : Prop := EvT (drawGo P G n call all b0 is t σ rd) Q

/-- on as normal, out as before -/
def thenX (f : Tr Value → AHeap → Prop) (Q : AEx → Tr Value → AHeap → Prop) (e : AEx) (t : Tr Value) (σ : AHeap) : Prop := match e with
  | .normal => f t σ
  | e => Q e t σ
def blockX (id : Nat) (Q : AEx → Tr Value → AHeap → Prop) (e : AEx) (t : Tr Value) (σ : AHeap) : Prop := match e with
  | .normal => Q .normal t σ
  | .exit i => if i = id then Q .normal t σ else Q (.exit i) t σ
  | .ret => Q .ret t σ

section code
variable {t : Tr Value} {σ : AHeap} {Q : AEx → Tr Value → AHeap → Prop}
theorem evC_skip (h : Q .normal t σ) : EvC P G n call .skip t σ Q := ⟨_, _, _, fun _ => rfl, h⟩
theorem evC_exit {i : Nat} (h : Q (.exit i) t σ) : EvC P G n call (.exit i) t σ Q := ⟨_, _, _, fun _ => rfl, h⟩
theorem evC_ret (h : Q .ret t σ) : EvC P G n call .ret t σ Q := ⟨_, _, _, fun _ => rfl, h⟩
theorem evC_label {l : Nat} (h : Q .normal t σ) : EvC P G n call (.label l) t σ Q := ⟨_, _, _, fun _ => rfl, h⟩
theorem evC_scope {c : Code} (h : EvC P G n call c t σ Q) : EvC P G n call (.scope c) t σ Q := h
theorem evC_seq {a b : Code} (h : EvC P G n call a t σ (thenX (fun t σ => EvC P G n call b t σ Q) Q)) : EvC P G n call (.seq a b) t σ Q := by
  obtain ⟨e, t1, σ1, h1, h2⟩ := h
  have h1' : ∀ k, codeK P G n call LL (.seq a b) t σ k = (AEx.rec (codeK P G n call LL b t1 σ1 k) (fun i => k (.exit i) t1 σ1) (k .ret t1 σ1) e : RR) := fun k => h1 _
  cases e with
  | normal =>
    obtain ⟨e', t2, σ2, h3, h4⟩ := (show EvC P G n call b t1 σ1 Q from h2)
    exact ⟨e', t2, σ2, fun k => (h1' k).trans (h3 k), h4⟩
  | exit i => exact ⟨_, _, _, h1', h2⟩
  | ret => exact ⟨_, _, _, h1', h2⟩
theorem evC_cond {x : Operand} {a b : Code} {c : Bool} (hx : aval G x t = some (.bool c)) (h1 : c = true → EvC P G n call a t σ Q) (h2 : c = false → EvC P G n call b t σ Q) : EvC P G n call (.cond x a b) t σ Q := by
  have e : ∀ k, codeK P G n call LL (.cond x a b) t σ k = ob (aval G x t) fun v => (match v with
    | .bool true => codeK P G n call LL a t σ k
    | .bool false => codeK P G n call LL b t σ k
    | _ => none) := fun k => rfl
  cases c with
  | true =>
    obtain ⟨e', t', σ', q1, q2⟩ := h1 rfl
    exact ⟨e', t', σ', fun k => by rw [e, hx]; exact q1 k, q2⟩
  | false =>
    obtain ⟨e', t', σ', q1, q2⟩ := h2 rfl
    exact ⟨e', t', σ', fun k => by rw [e, hx]; exact q1 k, q2⟩
theorem evC_true {x : Operand} {a b : Code} (hx : aval G x t = some (.bool true)) (h1 : EvC P G n call a t σ Q) : EvC P G n call (.cond x a b) t σ Q := evC_cond hx (fun _ => h1) (fun h => by cases h)
theorem evC_false {x : Operand} {a b : Code} (hx : aval G x t = some (.bool false)) (h1 : EvC P G n call b t σ Q) : EvC P G n call (.cond x a b) t σ Q := evC_cond hx (fun h => by cases h) (fun _ => h1)
theorem evC_block {id : Nat} {c : Code} (h : EvC P G n call c t σ (blockX id Q)) : EvC P G n call (.block id c) t σ Q := by
  obtain ⟨e, t1, σ1, h1, h2⟩ := h
  have h1' : ∀ k, codeK P G n call LL (.block id c) t σ k = (AEx.rec (k .normal t1 σ1) (fun i => ifb (Nat.beq i id) (k .normal t1 σ1) (k (.exit i) t1 σ1)) (k .ret t1 σ1) e : RR) := fun k => h1 _
  cases e with
  | normal => exact ⟨_, _, _, h1', h2⟩
  | ret => exact ⟨_, _, _, h1', h2⟩
  | exit i =>
    by_cases hi : i = id
    · subst hi
      simp only [blockX] at h2
      exact ⟨.normal, t1, σ1, fun k => by rw [h1']; show ifb (Nat.beq i i) _ _ = _; rw [Nat.beq_refl]; rfl, by simpa using h2⟩
    · simp only [blockX, if_neg hi] at h2
      refine ⟨.exit i, t1, σ1, fun k => ?_, h2⟩
      rw [h1']
      show ifb (Nat.beq i id) _ _ = _
      have : Nat.beq i id = false := by
        cases hb : Nat.beq i id
        · rfl
        · exact absurd (Nat.eq_of_beq_eq_true hb) hi
      rw [this]; rfl
/-- A loop, by what holds at each round's beginning, m getting less. -/
theorem evC_loop {c : Code} (I : Nat → Tr Value → AHeap → Prop) {m : Nat} (h0 : I m t σ) (hm : m < LL)
    (hs : ∀ m t σ, I m t σ → EvC P G n call c t σ (thenX (fun t' σ' => ∃ m', m' < m ∧ I m' t' σ') Q)) : EvC P G n call (.loop c) t σ Q := by
  have key : ∀ (L m : Nat) (t : Tr Value) (σ : AHeap), m < L → I m t σ → EvX (loopK (codeK P G n call LL c) L t σ) Q := by
    intro L
    induction L with
    | zero => intro m _ _ h; omega
    | succ L ih =>
      intro m t σ hm hI
      obtain ⟨e, t1, σ1, h1, h2⟩ := hs m t σ hI
      have h1' : ∀ k, loopK (codeK P G n call LL c) (L + 1) t σ k = (AEx.rec (loopK (codeK P G n call LL c) L t1 σ1 k) (fun i => k (.exit i) t1 σ1) (k .ret t1 σ1) e : RR) := fun k => h1 _
      cases e with
      | normal =>
        obtain ⟨m', hm', hI'⟩ := h2
        obtain ⟨e', t2, σ2, h3, h4⟩ := ih m' t1 σ1 (by omega) hI'
        exact ⟨e', t2, σ2, fun k => (h1' k).trans (h3 k), h4⟩
      | exit i => exact ⟨_, _, _, h1', h2⟩
      | ret => exact ⟨_, _, _, h1', h2⟩
  exact key LL m t σ hm h0
theorem evC_region {id : Nat} {ops : Array Oper} (h : EvL P G n call ops.toList ops.toList t σ (fun t σ => Q .normal t σ)) : EvC P G n call (.region id ops false) t σ Q :=
  let ⟨t1, σ1, h1, h2⟩ := h; ⟨.normal, t1, σ1, fun _ => h1 _, h2⟩
end code

section ops
variable {t : Tr Value} {σ σ' : AHeap} {Q : Tr Value → AHeap → Prop} {o : Oper} {l : List Oper} {v : Value} {d : Nat}

theorem evL_nil (h : Q t σ) : EvL P G n call all [] t σ Q := ⟨_, _, fun _ => rfl, h⟩
theorem cput_some (h : (Nat.blt d n && Nat.blt d 65536) = true) {k : Tr Value → RR} : cput n (some d) v t k = k (put d v t) := by
  show ifb (Nat.blt d n && Nat.blt d 65536) (fun v t (k : Tr Value → RR) => k (Tr.set (pth 16 d) (some v) t)) (fun _ _ _ => none) v t k = _
  rw [h]; rfl
theorem evL_cons (hd : o.dst = some d) (hb : (Nat.blt d n && Nat.blt d 65536) = true) (h : EvS P G n call all o t σ fun v σ' => EvL P G n call all l (put d v t) σ' Q) : EvL P G n call all (o :: l) t σ Q := by
  obtain ⟨v, σ1, h1, t2, σ2, h2, h3⟩ := h
  refine ⟨t2, σ2, fun k => ?_, h3⟩
  show stepV P G n call all o t σ (fun v σ' => cput n o.dst v t (fun t' => runOps P G n call all l t' σ' k)) = _
  rw [h1, hd, cput_some hb]; exact h2 k
theorem evL_cons0 (hd : o.dst = none) (h : EvS P G n call all o t σ fun _ σ' => EvL P G n call all l t σ' Q) : EvL P G n call all (o :: l) t σ Q := by
  obtain ⟨v, σ1, h1, t2, σ2, h2, h3⟩ := h
  refine ⟨t2, σ2, fun k => ?_, h3⟩
  show stepV P G n call all o t σ (fun v σ' => cput n o.dst v t (fun t' => runOps P G n call all l t' σ' k)) = _
  rw [h1, hd]; exact h2 k

variable {K : Value → AHeap → Prop}
theorem stepV_none (hg : o.guard = none) : stepV P G n call all o = execV (aop P G o.op) call := by
  unfold stepV; rw [hg]
theorem evS_val (hg : o.guard = none) (h : aop P G o.op t σ = some (.val v σ')) (hn : σ.next ≤ σ'.next) (hk : K v σ') : EvS P G n call all o t σ K := by
  refine ⟨v, σ', fun k => ?_, hk⟩
  rw [stepV_none hg]
  show ob (aop P G o.op t σ) (arV call σ k) = _
  rw [h, ob_some]
  show ifb (Nat.ble σ.next σ'.next) (k v σ') none = _
  rw [Nat.ble_eq_true_of_le hn]; rfl
theorem evS_skip (hg : o.guard = none) (h : aop P G o.op t σ = some (.skip σ')) (hn : σ.next ≤ σ'.next) (hk : K undef σ') : EvS P G n call all o t σ K := by
  refine ⟨undef, σ', fun k => ?_, hk⟩
  rw [stepV_none hg]
  show ob (aop P G o.op t σ) (arV call σ k) = _
  rw [h, ob_some]
  show ifb (Nat.ble σ.next σ'.next) (k undef σ') none = _
  rw [Nat.ble_eq_true_of_le hn]; rfl
theorem evS_enter {f : FuncId} {args : List Value} (hg : o.guard = none) (h : aop P G o.op t σ = some (.enter f args)) (hk : EvV (call f args σ) K) : EvS P G n call all o t σ K := by
  obtain ⟨v, σ', h1, h2⟩ := hk
  refine ⟨v, σ', fun k => ?_, h2⟩
  rw [stepV_none hg]
  show ob (aop P G o.op t σ) (arV call σ k) = _
  rw [h, ob_some]; exact h1 k
/-- an operation that is not wanted -/
theorem evS_off {j : Nat} {want b : Bool} {oj : Oper} (hg : o.guard = some (j, want)) (hj : nth j all = some oj) (hd : oj.dst = some d) (hb : (Nat.blt d n && Nat.blt d 65536) = true) (hv : fget d t = some (.bool b)) (hne : (b == want) = false) (hk : K undef σ) : EvS P G n call all o t σ K := by
  refine ⟨undef, σ, fun k => ?_, hk⟩
  unfold stepV
  simp only [hg, hj, hd]
  rw [hb]
  show ob (fget d t) _ = _
  rw [hv, ob_some]
  simp only [hne, cond_false]
theorem evS_offU {j : Nat} {want : Bool} {oj : Oper} {vs : Array Value} (hg : o.guard = some (j, want)) (hj : nth j all = some oj) (hd : oj.dst = some d) (hb : (Nat.blt d n && Nat.blt d 65536) = true) (hv : fget d t = some (.tuple vs)) (hk : K undef σ) : EvS P G n call all o t σ K := by
  refine ⟨undef, σ, fun k => ?_, hk⟩
  unfold stepV
  simp only [hg, hj, hd]
  rw [hb]
  show ob (fget d t) _ = _
  rw [hv, ob_some]
/-- an operation that is wanted -/
theorem evS_on {j : Nat} {want b : Bool} {oj : Oper} (hg : o.guard = some (j, want)) (hj : nth j all = some oj) (hd : oj.dst = some d) (hb : (Nat.blt d n && Nat.blt d 65536) = true) (hv : fget d t = some (.bool b)) (he : (b == want) = true) (hk : EvS P G n call all { o with guard := none } t σ K) : EvS P G n call all o t σ K := by
  obtain ⟨v, σ', h1, h2⟩ := hk
  refine ⟨v, σ', fun k => ?_, h2⟩
  rw [← h1 k, stepV_none (o := { o with guard := none }) rfl]
  unfold stepV
  simp only [hg, hj, hd]
  rw [hb]
  show ob (fget d t) _ = _
  rw [hv, ob_some]
  simp only [he, cond_true]
end ops

/- calls by contracts -/
abbrev Post := List Value → AHeap → Value → AHeap → Prop
def specOf (l : List (FuncId × Post)) (f : FuncId) (args : List Value) (σ : AHeap) (v : Value) (σ' : AHeap) : Prop := match l.lookup f with
  | some p => p args σ v σ'
  | none => True
open Classical in
noncomputable def callS (P : Program) (G : Nat) (l : List (FuncId × Post)) : CallF := fun f args σ k =>
  if h : ∃ p : Value × AHeap, CallOk P G f args σ p.1 p.2 ∧ specOf l f args σ p.1 p.2 then k (Classical.choose h).1 (Classical.choose h).2 else none
theorem callS_ok {l : List (FuncId × Post)} : CallsOk P G (callS P G l) := by
  intro f args σ k r h
  unfold callS at h
  split at h
  · rename_i hh; exact ⟨_, _, h, (Classical.choose_spec hh).1⟩
  · cases h
theorem evV_call {l : List (FuncId × Post)} {f : FuncId} {args : List Value} {σ : AHeap} {K : Value → AHeap → Prop} (h : ∃ v σ', CallOk P G f args σ v σ' ∧ specOf l f args σ v σ') (hk : ∀ v σ', specOf l f args σ v σ' → K v σ') : EvV (callS P G l f args σ) K := by
  have hh : ∃ p : Value × AHeap, CallOk P G f args σ p.1 p.2 ∧ specOf l f args σ p.1 p.2 := let ⟨v, σ', q⟩ := h; ⟨(v, σ'), q⟩
  refine ⟨(Classical.choose hh).1, (Classical.choose hh).2, fun k => ?_, hk _ _ (Classical.choose_spec hh).2⟩
  unfold callS
  rw [dif_pos hh]

theorem evV_use {l : List (FuncId × Post)} {f : FuncId} {p : Post} {args : List Value} {σ : AHeap} {K : Value → AHeap → Prop} (hl : l.lookup f = some p) (h : ∃ v σ', CallOk P G f args σ v σ' ∧ p args σ v σ') (hk : ∀ v σ', p args σ v σ' → K v σ') : EvV (callS P G l f args σ) K := by
  refine evV_call ?_ fun v σ' q => hk v σ' ?_
  · obtain ⟨v, σ', h1, h2⟩ := h
    refine ⟨v, σ', h1, ?_⟩
    unfold specOf; rw [hl]; exact h2
  · unfold specOf at q; rw [hl] at q; exact q

/-- A function, by its code. -/
theorem fn_ok (hm : P.follows .mixedOrders = true) {f : FuncId} {fn : Func} {c : Code} {args : List Value} {σ : AHeap} {Q : Value → AHeap → Prop} (l : List (FuncId × Post))
    (hf : P.funcs[f]? = some fn) (hb : fn.body = some c) (hn : fn.ntmps < 65536) (ha : args.length ≤ fn.ntmps)
    (h : EvC P G fn.ntmps (callS P G l) c (initFr args 0 .nil) σ fun e t σ' => (∀ i, e ≠ .exit i) ∧ ∃ vs, resultsK P fn.results.toList t σ' = some vs ∧ Q (tup vs) σ') : ∃ v σ', CallOk P G f args σ v σ' ∧ Q v σ' := by
  obtain ⟨e, t', σ', h1, h2, vs, h3, h4⟩ := h
  have key : funcK fn.ntmps (codeK P G fn.ntmps (callS P G l) LL c) (resultsK P fn.results.toList) args σ (fun v σ => some (v, σ)) = some (tup vs, σ') := by
    unfold funcK
    rw [Nat.ble_eq_true_of_le ha, ifb_true, h1]
    cases e with
    | normal => show ob _ _ = _; rw [h3]; rfl
    | ret => show ob _ _ = _; rw [h3]; rfl
    | exit i => exact absurd rfl (h2 i)
  obtain ⟨v, σ'', h5, h6⟩ := func_ok callS_ok (drawK_ok hm callS_ok) hf hb rfl hn key
  obtain ⟨rfl, rfl⟩ := Prod.mk.inj (Option.some.inj h5)
  exact ⟨_, _, h6, h4⟩

/- regions that draw their order -/
section draw
variable {t : Tr Value} {σ σ' : AHeap} {Q : Tr Value → AHeap → Prop} {v : Value} {d b0 : Nat} {x : DI} {is : List DI} {rd : List RdE}

theorem evC_draw {id : Nat} {ops : Array Oper} {Q : AEx → Tr Value → AHeap → Prop} {m : Nat} (hi : drawInfo ops.toList = is) (hl : Nat.beq is.length ops.toList.length = true) (hm : newsIn is = m) (hf : laterFree σ.next σ is = true)
    (h : EvD P G n call ops.toList σ.next is t (σ.skip m) [] (fun t σ => Q .normal t σ)) : EvC P G n call (.region id ops true) t σ Q := by
  obtain ⟨t1, σ1, h1, h2⟩ := h
  refine ⟨.normal, t1, σ1, fun k => ?_, h2⟩
  show ifb (Nat.beq (drawInfo ops.toList).length ops.toList.length) (drawAll P G n call ops.toList (drawInfo ops.toList)) (fun _ _ _ => none) t σ (fun t σ => k .normal t σ) = _
  rw [hi, hl, ifb_true]
  unfold drawAll
  show ifb (laterFree σ.next σ is) (drawGo P G n call ops.toList σ.next is t { t := σ.t, next := σ.next + newsIn is } [] _) none = _
  rw [hf, hm, ifb_true]
  exact h1 _
theorem evD_nil (h : Q t σ) : EvD P G n call all b0 [] t σ rd Q := ⟨_, _, fun _ => rfl, h⟩
theorem still_val {o : Oper} (hg : o.guard = none) (h : aop P G o.op t σ = some (.val v σ')) : stillS P G n all o t σ = some v := by
  unfold stillS
  rw [hg]
  show ob (aop P G o.op t σ) _ = _
  rw [h]; rfl
theorem evD_pure (hk : x.kd = .pure) (hd : x.o.dst = some d) (hb : (Nat.blt d n && Nat.blt d 65536) = true) (hs : stillS P G n all x.o (restr t x.rs) (emptyH 0) = some v) (h : EvD P G n call all b0 is (put d v t) σ rd Q) : EvD P G n call all b0 (x :: is) t σ rd Q := by
  obtain ⟨t1, σ1, h1, h2⟩ := h
  refine ⟨t1, σ1, fun k => ?_, h2⟩
  show (match x.kd with
      | .pure => fun t σ rd k => ob (stillS P G n all x.o (restr t x.rs) (emptyH 0)) fun v => cput n x.o.dst v t fun t' => drawGo P G n call all b0 is t' σ rd k
      | .read => fun t σ rd k => (fun tr => ob (stillS P G n all x.o tr σ) fun v => cput n x.o.dst v t fun t' => drawGo P G n call all b0 is t' σ (⟨x, tr, v⟩ :: rd) k) (restr t x.rs)
      | .new => fun t σ rd k => stepV P G n call all x.o (restr t x.rs) (emptyH (b0 + x.nm)) fun v σe =>
          ifb (Nat.ble σe.next (b0 + x.nm + 1)) (cput n x.o.dst v t fun t' => drawGo P G n call all b0 is t' (σ.set (b0 + x.nm) (σe.get (b0 + x.nm))) rd k) none
      | .act => fun t σ rd k => stepV P G n call all x.o (restr t x.rs) σ fun v σ' =>
          ifb (laterFree b0 σ' is) (ifb (recheck P G n all x.ah σ' rd) (cput n x.o.dst v t fun t' => drawGo P G n call all b0 is t' σ' rd k) none) none : Tr Value → AHeap → List RdE → (Tr Value → AHeap → RR) → RR) t σ rd k = _
  rw [hk]
  show ob (stillS P G n all x.o (restr t x.rs) (emptyH 0)) _ = _
  rw [hs, ob_some, hd, cput_some hb]
  exact h1 k
theorem evD_read (hk : x.kd = .read) (hd : x.o.dst = some d) (hb : (Nat.blt d n && Nat.blt d 65536) = true) (hs : stillS P G n all x.o (restr t x.rs) σ = some v) (h : EvD P G n call all b0 is (put d v t) σ (⟨x, restr t x.rs, v⟩ :: rd) Q) : EvD P G n call all b0 (x :: is) t σ rd Q := by
  obtain ⟨t1, σ1, h1, h2⟩ := h
  refine ⟨t1, σ1, fun k => ?_, h2⟩
  show (match x.kd with
      | .pure => fun t σ rd k => ob (stillS P G n all x.o (restr t x.rs) (emptyH 0)) fun v => cput n x.o.dst v t fun t' => drawGo P G n call all b0 is t' σ rd k
      | .read => fun t σ rd k => (fun tr => ob (stillS P G n all x.o tr σ) fun v => cput n x.o.dst v t fun t' => drawGo P G n call all b0 is t' σ (⟨x, tr, v⟩ :: rd) k) (restr t x.rs)
      | .new => fun t σ rd k => stepV P G n call all x.o (restr t x.rs) (emptyH (b0 + x.nm)) fun v σe =>
          ifb (Nat.ble σe.next (b0 + x.nm + 1)) (cput n x.o.dst v t fun t' => drawGo P G n call all b0 is t' (σ.set (b0 + x.nm) (σe.get (b0 + x.nm))) rd k) none
      | .act => fun t σ rd k => stepV P G n call all x.o (restr t x.rs) σ fun v σ' =>
          ifb (laterFree b0 σ' is) (ifb (recheck P G n all x.ah σ' rd) (cput n x.o.dst v t fun t' => drawGo P G n call all b0 is t' σ' rd k) none) none : Tr Value → AHeap → List RdE → (Tr Value → AHeap → RR) → RR) t σ rd k = _
  rw [hk]
  show ob (stillS P G n all x.o (restr t x.rs) σ) _ = _
  rw [hs, ob_some, hd, cput_some hb]
  exact h1 k
theorem evD_new (hk : x.kd = .new) (hd : x.o.dst = some d) (hb : (Nat.blt d n && Nat.blt d 65536) = true)
    (h : EvS P G n call all x.o (restr t x.rs) (emptyH (b0 + x.nm)) fun v σe => σe.next ≤ b0 + x.nm + 1 ∧ EvD P G n call all b0 is (put d v t) (σ.set (b0 + x.nm) (σe.get (b0 + x.nm))) rd Q) : EvD P G n call all b0 (x :: is) t σ rd Q := by
  obtain ⟨v, σe, h0, hle, t1, σ1, h1, h2⟩ := h
  refine ⟨t1, σ1, fun k => ?_, h2⟩
  show (match x.kd with
      | .pure => fun t σ rd k => ob (stillS P G n all x.o (restr t x.rs) (emptyH 0)) fun v => cput n x.o.dst v t fun t' => drawGo P G n call all b0 is t' σ rd k
      | .read => fun t σ rd k => (fun tr => ob (stillS P G n all x.o tr σ) fun v => cput n x.o.dst v t fun t' => drawGo P G n call all b0 is t' σ (⟨x, tr, v⟩ :: rd) k) (restr t x.rs)
      | .new => fun t σ rd k => stepV P G n call all x.o (restr t x.rs) (emptyH (b0 + x.nm)) fun v σe =>
          ifb (Nat.ble σe.next (b0 + x.nm + 1)) (cput n x.o.dst v t fun t' => drawGo P G n call all b0 is t' (σ.set (b0 + x.nm) (σe.get (b0 + x.nm))) rd k) none
      | .act => fun t σ rd k => stepV P G n call all x.o (restr t x.rs) σ fun v σ' =>
          ifb (laterFree b0 σ' is) (ifb (recheck P G n all x.ah σ' rd) (cput n x.o.dst v t fun t' => drawGo P G n call all b0 is t' σ' rd k) none) none : Tr Value → AHeap → List RdE → (Tr Value → AHeap → RR) → RR) t σ rd k = _
  rw [hk]
  show stepV P G n call all x.o (restr t x.rs) (emptyH (b0 + x.nm)) _ = _
  rw [h0, Nat.ble_eq_true_of_le hle, ifb_true, hd, cput_some hb]
  exact h1 k
theorem evD_act (hk : x.kd = .act) (hd : x.o.dst = some d) (hb : (Nat.blt d n && Nat.blt d 65536) = true)
    (h : EvS P G n call all x.o (restr t x.rs) σ fun v σ' => laterFree b0 σ' is = true ∧ recheck P G n all x.ah σ' rd = true ∧ EvD P G n call all b0 is (put d v t) σ' rd Q) : EvD P G n call all b0 (x :: is) t σ rd Q := by
  obtain ⟨v, σe, h0, hlf, hrc, t1, σ1, h1, h2⟩ := h
  refine ⟨t1, σ1, fun k => ?_, h2⟩
  show (match x.kd with
      | .pure => fun t σ rd k => ob (stillS P G n all x.o (restr t x.rs) (emptyH 0)) fun v => cput n x.o.dst v t fun t' => drawGo P G n call all b0 is t' σ rd k
      | .read => fun t σ rd k => (fun tr => ob (stillS P G n all x.o tr σ) fun v => cput n x.o.dst v t fun t' => drawGo P G n call all b0 is t' σ (⟨x, tr, v⟩ :: rd) k) (restr t x.rs)
      | .new => fun t σ rd k => stepV P G n call all x.o (restr t x.rs) (emptyH (b0 + x.nm)) fun v σe =>
          ifb (Nat.ble σe.next (b0 + x.nm + 1)) (cput n x.o.dst v t fun t' => drawGo P G n call all b0 is t' (σ.set (b0 + x.nm) (σe.get (b0 + x.nm))) rd k) none
      | .act => fun t σ rd k => stepV P G n call all x.o (restr t x.rs) σ fun v σ' =>
          ifb (laterFree b0 σ' is) (ifb (recheck P G n all x.ah σ' rd) (cput n x.o.dst v t fun t' => drawGo P G n call all b0 is t' σ' rd k) none) none : Tr Value → AHeap → List RdE → (Tr Value → AHeap → RR) → RR) t σ rd k = _
  rw [hk]
  show stepV P G n call all x.o (restr t x.rs) σ _ = _
  rw [h0, hlf, ifb_true, hrc, ifb_true, hd, cput_some hb]
  exact h1 k
theorem evD_act0 (hk : x.kd = .act) (hd : x.o.dst = none)
    (h : EvS P G n call all x.o (restr t x.rs) σ fun _ σ' => laterFree b0 σ' is = true ∧ recheck P G n all x.ah σ' rd = true ∧ EvD P G n call all b0 is t σ' rd Q) : EvD P G n call all b0 (x :: is) t σ rd Q := by
  obtain ⟨v, σe, h0, hlf, hrc, t1, σ1, h1, h2⟩ := h
  refine ⟨t1, σ1, fun k => ?_, h2⟩
  show (match x.kd with
      | .pure => fun t σ rd k => ob (stillS P G n all x.o (restr t x.rs) (emptyH 0)) fun v => cput n x.o.dst v t fun t' => drawGo P G n call all b0 is t' σ rd k
      | .read => fun t σ rd k => (fun tr => ob (stillS P G n all x.o tr σ) fun v => cput n x.o.dst v t fun t' => drawGo P G n call all b0 is t' σ (⟨x, tr, v⟩ :: rd) k) (restr t x.rs)
      | .new => fun t σ rd k => stepV P G n call all x.o (restr t x.rs) (emptyH (b0 + x.nm)) fun v σe =>
          ifb (Nat.ble σe.next (b0 + x.nm + 1)) (cput n x.o.dst v t fun t' => drawGo P G n call all b0 is t' (σ.set (b0 + x.nm) (σe.get (b0 + x.nm))) rd k) none
      | .act => fun t σ rd k => stepV P G n call all x.o (restr t x.rs) σ fun v σ' =>
          ifb (laterFree b0 σ' is) (ifb (recheck P G n all x.ah σ' rd) (cput n x.o.dst v t fun t' => drawGo P G n call all b0 is t' σ' rd k) none) none : Tr Value → AHeap → List RdE → (Tr Value → AHeap → RR) → RR) t σ rd k = _
  rw [hk]
  show stepV P G n call all x.o (restr t x.rs) σ _ = _
  rw [h0, hlf, ifb_true, hrc, ifb_true, hd]
  exact h1 k

theorem recheck_nil {ah : List Nat} : recheck P G n all ah σ [] = true := _root_.id rfl
theorem recheck_ahead {ah : List Nat} {e : RdE} (h : ah.contains e.x.j = true) (hr : recheck P G n all ah σ rd = true) : recheck P G n all ah σ (e :: rd) = true := by
  show ifb (ah.contains e.x.j) (recheck P G n all ah σ rd) _ = true
  rw [h]; exact hr
theorem recheck_again {ah : List Nat} {e : RdE} (h : stillS P G n all e.x.o e.t σ = some e.v) (hv : vEq 6 e.v e.v = true) (hr : recheck P G n all ah σ rd = true) : recheck P G n all ah σ (e :: rd) = true := by
  show ifb (ah.contains e.x.j) (recheck P G n all ah σ rd) (match stillS P G n all e.x.o e.t σ with
    | some v => ifb (vEq 6 v e.v) (recheck P G n all ah σ rd) false
    | none => false) = true
  rw [h]
  cases ah.contains e.x.j
  · show ifb (vEq 6 e.v e.v) _ _ = true
    rw [hv]; exact hr
  · exact hr
theorem laterFree_nil : laterFree b0 σ [] = true := _root_.id rfl
theorem laterFree_cons (h : x.kd = .new → σ.get (b0 + x.nm) = none) (hr : laterFree b0 σ is = true) : laterFree b0 σ (x :: is) = true := by
  show (match x.kd with
    | .new => ifb (Option.isNone (σ.get (b0 + x.nm))) (laterFree b0 σ is) false
    | _ => laterFree b0 σ is) = true
  cases hk : x.kd with
  | new => show ifb (Option.isNone (σ.get (b0 + x.nm))) _ _ = true; rw [h hk]; exact hr
  | _ => exact hr
end draw
end Go.Eng
/- The engine with open data: what single operations come to. -/
namespace Go.Eng
open Go
variable {P : Program} {G n : Nat} {t : Tr Value} {σ : AHeap}

/- operands -/
theorem aval_tmp {i : Nat} (h : i < 65536) : aval G (.tmp i) t = fget i t := by
  show ifb (Nat.blt i 65536) (fget i) (fun _ => none) t = _
  have e : Nat.blt i 65536 = true := by rw [Nat.blt_eq]; exact h
  rw [e]; rfl
theorem aval_const {v : Value} (h : closedD 8 v = true) : aval G (.const v) t = some v := by
  show ifb (closedD 8 v) (fun _ => some v) (fun _ => none) t = _
  rw [h]; rfl
theorem aval_int {k : IntKind} {z : Int} : aval G (.const (.int k z)) t = some (.int k z) := aval_const rfl
theorem aval_bool {b : Bool} : aval G (.const (.bool b)) t = some (.bool b) := aval_const rfl
theorem aval_nilSlice : aval G (.const (.slice none 0 0)) t = some (.slice none 0 0) := aval_const rfl
theorem aval_nilPtr : aval G (.const (.pointer none)) t = some (.pointer none) := aval_const rfl
theorem aval_nilIface : aval G (.const .nilIface) t = some .nilIface := aval_const rfl
theorem aval_nilMap : aval G (.const (.map none)) t = some (.map none) := aval_const rfl
theorem aval_nilFunc : aval G (.const .nilFunc) t = some .nilFunc := aval_const rfl
theorem aval_func {f : FuncId} : aval G (.func f) t = some (.func (.func f) #[] #[]) := _root_.id rfl
theorem aval_global {g : Nat} (h : g < G) : aval G (.global g) t = some (.pointer (some ⟨g, 0, none⟩)) := by
  show ifb (Nat.blt g G) (fun _ => some _) (fun _ => none) t = _
  have e : Nat.blt g G = true := by rw [Nat.blt_eq]; exact h
  rw [e]; rfl
theorem avals_nil : avals G [] t = some [] := _root_.id rfl
theorem avals_cons {x : Operand} {l : List Operand} {v : Value} {r : List Value} (h : aval G x t = some v) (k : avals G l t = some r) : avals G (x :: l) t = some (v :: r) := by
  show ob (aval G x t) (fun v => ob (avals G l t) fun r => some (v :: r)) = _
  rw [h, ob_some, k, ob_some]

/- operations that only compute -/
theorem f1_eq {x : Tr Value → Option Value} {f : Value → Option Value} {u v : Value} (h : x t = some u) (k : f u = some v) : f1 x f t σ = some (.val v σ) := by
  show ob (x t) _ = _
  rw [h, ob_some, k]; rfl
theorem f2_eq {x y : Tr Value → Option Value} {f : Value → Value → Option Value} {u u' v : Value} (h : x t = some u) (h' : y t = some u') (k : f u u' = some v) : f2 x y f t σ = some (.val v σ) := by
  show ob (x t) _ = _
  rw [h, ob_some, h', ob_some, k]; rfl
theorem m1_eq {x : Tr Value → Option Value} {f : AHeap → Value → Option Value} {u v : Value} (h : x t = some u) (k : f σ u = some v) : m1 x f t σ = some (.val v σ) := by
  show ob (x t) _ = _
  rw [h, ob_some, k]; rfl
theorem m2_eq {x y : Tr Value → Option Value} {f : AHeap → Value → Value → Option Value} {u u' v : Value} (h : x t = some u) (h' : y t = some u') (k : f σ u u' = some v) : m2 x y f t σ = some (.val v σ) := by
  show ob (x t) _ = _
  rw [h, ob_some, h', ob_some, k]; rfl
theorem n1_eq {x : Tr Value → Option Value} {f : AHeap → Value → Option AR} {u : Value} {r : AR} (h : x t = some u) (k : f σ u = some r) : n1 x f t σ = some r := by
  show ob (x t) _ = _
  rw [h, ob_some, k]
theorem n2_eq {x y : Tr Value → Option Value} {f : AHeap → Value → Value → Option AR} {u u' : Value} {r : AR} (h : x t = some u) (h' : y t = some u') (k : f σ u u' = some r) : n2 x y f t σ = some r := by
  show ob (x t) _ = _
  rw [h, ob_some, h', ob_some, k]
theorem p2_eq {x y : Tr Value → Option Value} {f : AHeap → Value → Value → Option AHeap} {u u' : Value} {r : AHeap} (h : x t = some u) (h' : y t = some u') (k : f σ u u' = some r) : p2 x y f t σ = some (.skip r) := by
  show ob (x t) _ = _
  rw [h, ob_some, h', ob_some, k]; rfl
theorem p3_eq {x y z : Tr Value → Option Value} {f : AHeap → Value → Value → Value → Option AHeap} {u u' u'' : Value} {r : AHeap} (h : x t = some u) (h' : y t = some u') (h'' : z t = some u'') (k : f σ u u' u'' = some r) : p3 x y z f t σ = some (.skip r) := by
  show ob (x t) _ = _
  rw [h, ob_some, h', ob_some, h'', ob_some, k]; rfl

theorem op_move {x : Operand} {v : Value} (h : aval G x t = some v) : aop P G (.move x) t σ = some (.val v σ) := f1_eq h rfl
theorem op_assign {x : Operand} {v : Value} (h : aval G x t = some v) : aop P G (.assign x) t σ = some (.val v σ) := f1_eq h rfl
theorem op_pick {c a b : Operand} {p : Bool} {v : Value} (h : aval G c t = some (.bool p)) (h1 : p = true → aval G a t = some v) (h2 : p = false → aval G b t = some v) : aop P G (.pick c a b) t σ = some (.val v σ) := by
  show ob (aval G c t) _ = _
  rw [h, ob_some]
  cases p
  · show ob (aval G b t) _ = _
    rw [h2 rfl]; rfl
  · show ob (aval G a t) _ = _
    rw [h1 rfl]; rfl
theorem op_extract {x : Operand} {i : Nat} {vs : List Value} {v : Value} (h : aval G x t = some (.tuple ⟨vs⟩)) (k : vs[i]? = some v) : aop P G (.extract x i) t σ = some (.val v σ) :=
  f1_eq h (by show nth i vs = _; rw [nth_eq]; exact k)
theorem op_nilCheck {x : Operand} {v : Value} (h : aval G x t = some v) (k : nilC v = some v) : aop P G (.nilCheck x) t σ = some (.val v σ) := f1_eq h k

/- whole numbers -/
theorem peek_bind {α β : Type} (f : α → Sem β) : ∀ (x : Sem α), peek P (x >>= f) = (peek P x).bind fun a => peek P (f a)
  | .pure _ => rfl
  | .program k => peek_bind f (k P)
  | .mark _ k => peek_bind f k
  | .load .. => rfl
  | .store .. => rfl
  | .new .. => rfl
  | .shape .. => rfl
  | .freeze .. => rfl
  | .frozen .. => rfl
  | .getObj .. => rfl
  | .setObj .. => rfl
  | .choose .. => rfl
  | .sys .. => rfl
  | .halt .. => rfl
theorem peek_underlying {s : TypeId} {d : TypeDesc} (h : P.underlying s = some d) : peek P (underlying s) = some d := by
  show peek P (match P.underlying s with | some d => pure d | none => stuck "no such type") = _
  rw [h]; rfl
theorem pk_val {x : Option Value} {v : Value} (h : x = some v) (hc : closedD 1 v = true) : pk x = some v := by
  rw [h]; show ifb (closedD 1 v) (some v) none = _; rw [hc]; rfl
theorem cBin_int {c : Bool} {op : BinOp} {ty : TypeId} {k k' : IntKind} {a b : Int} {v : Value} (h : peek P (binOp op ty (.int k a) (.int k' b)) = some v) (hc : closedD 1 v = true) : cBin P c op ty (.int k a) (.int k' b) = some v := by
  have slow := pk_val h hc
  cases a with
  | negSucc a => cases b <;> exact slow
  | ofNat a => cases b with
    | negSucc b => exact slow
    | ofNat b =>
      show orElseV (binFast op k a k' b) (pk (peek P (binOp op ty (.int k (.ofNat a)) (.int k' (.ofNat b))))) = some v
      cases hf : binFast op k a k' b with
      | none => exact slow
      | some u =>
        have h1 := binFast_ok (P := P) hf ty default
        have h2 := peek_run h default
        have h3 := h1.symm.trans h2
        injection h3 with h3
        rw [h3]; rfl
variable {c : Bool} {ty : TypeId} {k k' : IntKind} {a b : Int}
theorem bin_add : cBin P c .add ty (.int k a) (.int k b) = some (.int k (k.wrap (a + b))) := cBin_int (by simp [binOp, Op.intArith]; rfl) rfl
theorem bin_sub : cBin P c .sub ty (.int k a) (.int k b) = some (.int k (k.wrap (a - b))) := cBin_int (by simp [binOp, Op.intArith]; rfl) rfl
theorem bin_mul : cBin P c .mul ty (.int k a) (.int k b) = some (.int k (k.wrap (a * b))) := cBin_int (by simp [binOp, Op.intArith]; rfl) rfl
theorem bin_quo (h : b ≠ 0) : cBin P c .quo ty (.int k a) (.int k b) = some (.int k (k.wrap (a.tdiv b))) := cBin_int (by simp [binOp, Op.intDiv, h]; rfl) rfl
theorem bin_rem (h : b ≠ 0) : cBin P c .rem ty (.int k a) (.int k b) = some (.int k (a.tmod b)) := cBin_int (by simp [binOp, Op.intDiv, h]; rfl) rfl
theorem bin_and : cBin P c .and ty (.int k a) (.int k b) = some (.int k (k.wrap (BitVec.ofInt k.bits a &&& BitVec.ofInt k.bits b).toNat)) := cBin_int (by simp [binOp, Op.intBits]; rfl) rfl
theorem bin_or : cBin P c .or ty (.int k a) (.int k b) = some (.int k (k.wrap (BitVec.ofInt k.bits a ||| BitVec.ofInt k.bits b).toNat)) := cBin_int (by simp [binOp, Op.intBits]; rfl) rfl
theorem bin_xor : cBin P c .xor ty (.int k a) (.int k b) = some (.int k (k.wrap (BitVec.ofInt k.bits a ^^^ BitVec.ofInt k.bits b).toNat)) := cBin_int (by simp [binOp, Op.intBits]; rfl) rfl
theorem bin_shl (h : 0 ≤ b) : cBin P c .shl ty (.int k a) (.int k' b) = some (.int k (k.wrap (a * 2 ^ (min b.toNat k.bits)))) := cBin_int (by simp [binOp, Op.shift, Int.not_lt.2 h]; rfl) rfl
theorem bin_shr (h : 0 ≤ b) : cBin P c .shr ty (.int k a) (.int k' b) = some (.int k (a.fdiv (2 ^ (min b.toNat k.bits)))) := cBin_int (by simp [binOp, Op.shift, Int.not_lt.2 h]; rfl) rfl
theorem bin_eql : cBin P c .eql ty (.int k a) (.int k b) = some (.bool (a == b)) := cBin_int (by simp [binOp, Op.intCmp]; rfl) rfl
theorem bin_neq : cBin P c .neq ty (.int k a) (.int k b) = some (.bool (a != b)) := cBin_int (by simp [binOp, Op.intCmp]; rfl) rfl
theorem bin_lss : cBin P c .lss ty (.int k a) (.int k b) = some (.bool (decide (a < b))) := cBin_int (by simp [binOp, Op.intCmp]; rfl) rfl
theorem bin_leq : cBin P c .leq ty (.int k a) (.int k b) = some (.bool (decide (a ≤ b))) := cBin_int (by simp [binOp, Op.intCmp]; rfl) rfl
theorem bin_gtr : cBin P c .gtr ty (.int k a) (.int k b) = some (.bool (decide (a > b))) := cBin_int (by simp [binOp, Op.intCmp]; rfl) rfl
theorem bin_geq : cBin P c .geq ty (.int k a) (.int k b) = some (.bool (decide (a ≥ b))) := cBin_int (by simp [binOp, Op.intCmp]; rfl) rfl
theorem un_not {p : Bool} : oUn P .not (.bool p) = some (.bool !p) := by
  refine pk_val ?_ rfl
  simp [Op.unary]; rfl
theorem op_bin {op : BinOp} {ty' : TypeId} {x y : Operand} {u v w : Value} (hx : aval G x t = some u) (hy : aval G y t = some v) (h : cBin P (isC x || isC y) op ty u v = some w) : aop P G (.binOp op ty x y ty') t σ = some (.val w σ) := f2_eq hx hy h
theorem op_un {op : UnOp} {x : Operand} {u w : Value} (hx : aval G x t = some u) (h : oUn P op u = some w) : aop P G (.unOp op ty x) t σ = some (.val w σ) := f1_eq hx h
theorem conv_int {s d : TypeId} (hs : ∃ ks, P.underlying s = some (.int ks)) (hd : P.underlying d = some (.int k')) : cConvH P s d σ (.int k a) = some (.int k' (k'.wrap a)) := by
  obtain ⟨ks, hs⟩ := hs
  have e0 : cConvH P s d σ (.int k a) = cConv P s d (.int k a) := by unfold cConvH; rw [hs, hd]
  have e1 : cConv P s d (.int k a) = convWith P s d k' (.int k a) := by unfold cConv; rw [hs, hd]
  have hp : peek P (convert s d (.int k a)) = some (.int k' (k'.wrap a)) := by
    unfold convert
    rw [peek_bind, peek_underlying hs, Option.bind_some, peek_bind, peek_underlying hd, Option.bind_some]
    rfl
  rw [e0, e1]
  have slow := pk_val hp rfl
  cases a with
  | negSucc a => exact slow
  | ofNat a =>
    show orElseV (wrapN k' a) (pk (peek P (convert s d (.int k (.ofNat a))))) = _
    cases hf : wrapN k' a with
    | none => exact slow
    | some u => rw [wrapN_ok hf]; rfl
theorem op_conv {s d : TypeId} {x : Operand} {u w : Value} (hx : aval G x t = some u) (h : cConvH P s d σ u = some w) : aop P G (.convert s d x) t σ = some (.val w σ) := m1_eq hx h
end Go.Eng
/- The engine with open data: memory: slices, cells, what is appended. -/
namespace Go.Eng
open Go
variable {P : Program} {G n : Nat} {t : Tr Value}

/-- no name is given yet from 'next' on -/
def Wf (σ : AHeap) : Prop := ∀ b, σ.next ≤ b → σ.get b = none
theorem Wf.push {σ : AHeap} {x : ABlk} (h : Wf σ) : Wf (σ.push x) := fun b hb => by
  rw [AHeap.next_push] at hb
  rw [AHeap.get_push, if_neg (by omega)]; exact h b (by omega)
theorem Wf.set {σ : AHeap} {c : Nat} {v : Option ABlk} (h : Wf σ) (hc : c < σ.next) : Wf (σ.set c v) := fun b hb => by
  rw [AHeap.next_set] at hb
  rw [AHeap.get_set', if_neg (by omega)]; exact h b hb

/-- All that was there (but for one block, if at all) is there as it was. -/
structure Ext (B : Option Nat) (σ σ' : AHeap) : Prop where
  up : σ.next ≤ σ'.next
  wf : Wf σ → Wf σ'
  get : ∀ b, b < σ.next → B ≠ some b → σ'.get b = σ.get b
theorem Ext.refl {B : Option Nat} (σ : AHeap) : Ext B σ σ := ⟨Nat.le_refl _, id, fun _ _ _ => rfl⟩
theorem Ext.trans {B : Option Nat} {a b c : AHeap} (h : Ext B a b) (k : Ext B b c) : Ext B a c := ⟨Nat.le_trans h.up k.up, fun w => k.wf (h.wf w), fun x hx hB => (k.get x (Nat.lt_of_lt_of_le hx h.up) hB).trans (h.get x hx hB)⟩
theorem Ext.weak {B : Option Nat} {a b : AHeap} (h : Ext none a b) : Ext B a b := ⟨h.up, h.wf, fun x hx _ => h.get x hx (by simp)⟩
theorem Ext.push {B : Option Nat} {σ : AHeap} {x : ABlk} : Ext B σ (σ.push x) := ⟨by rw [AHeap.next_push]; omega, Wf.push, fun b hb _ => by rw [AHeap.get_push, if_neg (by omega)]⟩
theorem Ext.set {σ : AHeap} {c : Nat} {v : Option ABlk} (hc : c < σ.next) : Ext (some c) σ (σ.set c v) := ⟨Nat.le_refl _, fun w => w.set hc, fun b _ hB => by rw [AHeap.get_set', if_neg (fun e => hB (by rw [e]))]⟩
/-- what is changed is new -/
theorem Ext.drop {a b c : AHeap} {x : Nat} (h : Ext none a b) (k : Ext (some x) b c) (hx : a.next ≤ x) : Ext none a c := ⟨Nat.le_trans h.up k.up, fun w => k.wf (h.wf w), fun y hy hB => by
  rw [k.get y (Nat.lt_of_lt_of_le hy h.up) (fun e => by injection e with e; omega)]; exact h.get y hy hB⟩

/-- n elements of es cells each: what stands in them -/
inductive Sl (σ : AHeap) (es : Nat) : Value → Nat → List Value → Prop
  | nil : Sl σ es (.slice none 0 0) 0 []
  | mark : Sl σ es emptyMark 0 []
  | exact {b off n cap : Nat} {c : List Value} {k : AKind} (hc : cap < BIG) (hn : n ≤ cap) (hb : b < σ.next) (h : σ.get b = some (.cells c k)) (hl : off + n * es ≤ c.length) : Sl σ es (.slice (some ⟨b, off, none⟩) n cap) n ((c.drop off).take (n * es))
  | grown {b kk n : Nat} {c : List Value} (hb : b < σ.next) (h : σ.get b = some (.cells c (.grow es))) (he : 0 < es) (hne : es ≤ c.length) (hl : (kk + n) * es ≤ c.length) : Sl σ es (.slice (some ⟨b, kk * es, none⟩) n (BIG + kk)) n ((c.drop (kk * es)).take (n * es))

theorem Sl.len {σ : AHeap} {es : Nat} {v : Value} {n : Nat} {cs : List Value} (h : Sl σ es v n cs) : cs.length = n * es := by
  cases h with
  | nil => simp
  | mark => simp
  | exact hc hn hb h hl => simp; omega
  | grown hb h he hne hl => rw [Nat.add_mul] at hl; simp; omega

/-- the block of a slice -/
def blk : Value → Option Nat
  | .slice (some ⟨b, _, none⟩) _ _ => some b
  | _ => none

theorem Sl.ext {B : Option Nat} {σ σ' : AHeap} {es : Nat} {v : Value} {n : Nat} {cs : List Value} (h : Sl σ es v n cs) (e : Ext B σ σ') (hB : B = none ∨ blk v ≠ B) : Sl σ' es v n cs := by
  have key : ∀ b, b < σ.next → (B = none ∨ some b ≠ B) → σ'.get b = σ.get b := fun b hb hB => e.get b hb (hB.elim (fun q => by rw [q]; simp) fun q => q.symm)
  cases h with
  | nil => exact .nil
  | mark => exact .mark
  | exact hc hn hb h hl => exact .exact hc hn (Nat.lt_of_lt_of_le hb e.up) (by rw [key _ hb hB]; exact h) hl
  | grown hb h he hne hl => exact .grown (Nat.lt_of_lt_of_le hb e.up) (by rw [key _ hb hB]; exact h) he hne hl
theorem Sl.ext0 {σ σ' : AHeap} {es : Nat} {v : Value} {n : Nat} {cs : List Value} (h : Sl σ es v n cs) (e : Ext none σ σ') : Sl σ' es v n cs := h.ext e (.inl rfl)

/-- a pointer, and the cells there -/
structure At (σ : AHeap) (p : Value) (m : Nat) (vs : List Value) : Prop where
  ex : ∃ b o c k, p = .pointer (some ⟨b, o, none⟩) ∧ b < σ.next ∧ σ.get b = some (.cells c k) ∧ o + m ≤ c.length ∧ (c.drop o).take m = vs

theorem At.len {σ : AHeap} {p : Value} {m : Nat} {vs : List Value} (h : At σ p m vs) : vs.length = m := by
  obtain ⟨b, o, c, k, _, _, _, hl, rfl⟩ := h.ex
  simp; omega
theorem loadOne_at {σ : AHeap} {p v : Value} (h : At σ p 1 [v]) : loadOne σ p = some v := by
  obtain ⟨b, o, c, k, rfl, hb, hg, hl, hv⟩ := h.ex
  show ob (σ.get b) (fun x => cl x fun c _ => nth o c) = _
  rw [hg, ob_some]
  show nth o c = _
  rw [nth_eq]
  have := congrArg (·[0]?) hv
  simpa using this
theorem sub_eq {c : List Value} {o m : Nat} (h : o + m ≤ c.length) : sub c o m = some ((c.drop o).take m) := by
  have hl : ∀ (n : Nat) (l : List Value), n ≤ l.length → hasLen n l = true := by
    intro n
    induction n with
    | zero => intro _ _; rfl
    | succ n ih => intro l h; cases l with
      | nil => simp at h
      | cons x l => exact ih l (by simpa using h)
  show ifb (hasLen (o + m) c) (some (takeL m (dropL o c))) none = _
  rw [hl _ _ h, takeL_eq, dropL_eq]; rfl
theorem hasLen_of {α : Type} : ∀ (n : Nat) (l : List α), n ≤ l.length → hasLen n l = true
  | 0, _, _ => rfl
  | _ + 1, [], h => by simp at h
  | n + 1, _ :: l, h => hasLen_of n l (by simpa using h)
theorem loadAgg_at {σ : AHeap} {p : Value} {m : Nat} {vs : List Value} (h : At σ p m vs) : loadAgg m σ p = some (.agg ⟨vs⟩) := by
  obtain ⟨b, o, c, k, rfl, hb, hg, hl, hv⟩ := h.ex
  show ob (σ.get b) (fun x => cl x fun c _ => ob (sub c o m) fun r => some (Value.agg ⟨r⟩)) = _
  rw [hg, ob_some]
  show ob (sub c o m) _ = _
  rw [sub_eq hl, ob_some, hv]
theorem At.field {σ : AHeap} {p : Value} {m : Nat} {vs : List Value} (h : At σ p m vs) (o' m' : Nat) (hm : o' + m' ≤ m) : ∃ p', (pt p fun b off => some (.pointer (some ⟨b, off + o', none⟩))) = some p' ∧ At σ p' m' ((vs.drop o').take m') := by
  obtain ⟨b, o, c, k, rfl, hb, hg, hl, hv⟩ := h.ex
  refine ⟨_, rfl, ⟨b, o + o', c, k, rfl, hb, hg, by omega, ?_⟩⟩
  subst hv
  rw [List.drop_take, List.take_take, List.drop_drop, Nat.min_eq_left (by omega)]

theorem Sl.at {σ : AHeap} {es : Nat} {v : Value} {n : Nat} {cs : List Value} (h : Sl σ es v n cs) {k : IntKind} {i : Nat} (hi : i < n) : ∃ p, ixSl es v (.int k i) = some p ∧ At σ p es ((cs.drop (i * es)).take es) := by
  have hbl : Nat.blt i n = true := by rw [Nat.blt_eq]; exact hi
  have hmul : i * es + es ≤ n * es := by rw [← Nat.succ_mul]; exact Nat.mul_le_mul_right _ hi
  cases h with
  | nil => omega
  | mark => omega
  | exact hc hn hb h hl =>
    rename_i b off cap c kd
    refine ⟨.pointer (some ⟨b, off + i * es, none⟩), ?_, ⟨b, off + i * es, c, kd, rfl, hb, h, by omega, ?_⟩⟩
    · show ifb (Nat.blt i n) _ _ = _; rw [hbl]; rfl
    · rw [List.drop_take, List.take_take, List.drop_drop, Nat.min_eq_left (by omega)]
  | grown hb h he hne hl =>
    rename_i b kk c
    rw [Nat.add_mul] at hl
    refine ⟨.pointer (some ⟨b, kk * es + i * es, none⟩), ?_, ⟨b, kk * es + i * es, c, _, rfl, hb, h, by omega, ?_⟩⟩
    · show ifb (Nat.blt i n) _ _ = _; rw [hbl]; rfl
    · rw [List.drop_take, List.take_take, List.drop_drop, Nat.min_eq_left (by omega)]

theorem lenA_sl {σ : AHeap} {es : Nat} {v : Value} {n : Nat} {cs : List Value} (h : Sl σ es v n cs) : lenA v = some n := by
  cases h <;> rfl
theorem lenOf_sl {σ : AHeap} {es : Nat} {v : Value} {n : Nat} {cs : List Value} (h : Sl σ es v n cs) {ty e : TypeId} (ht : P.underlying ty = some (.slice e)) : lenOf P ty σ v = some (.int .i64 n) := by
  unfold lenOf
  rw [ht]
  cases h <;> rfl
theorem Sl.src {σ : AHeap} {es : Nat} {v : Value} {n : Nat} {cs : List Value} (h : Sl σ es v n cs) (m : Nat) (hm : m ≤ n) : firstA σ es m v = some (cs.take (m * es)) := by
  have hmul : m * es ≤ n * es := Nat.mul_le_mul_right _ hm
  cases h with
  | nil => rw [show m = 0 by omega]; simp [firstA]
  | mark =>
    rw [show m = 0 by omega]
    simp [firstA, emptyMark, ifb]
  | exact hc hn hb h hl =>
    rename_i b off cap c kd
    show ifb (Nat.ble m n) (ob (σ.get b) fun x => cl x fun c _ => sub c off (m * es)) none = _
    rw [Nat.ble_eq_true_of_le hm, ifb_true, h, ob_some]
    show sub c off (m * es) = _
    rw [sub_eq (by omega), List.take_take, Nat.min_eq_left hmul]
  | grown hb h he hne hl =>
    rename_i b kk c
    rw [Nat.add_mul] at hl
    show ifb (Nat.ble m n) (ob (σ.get b) fun x => cl x fun c _ => sub c (kk * es) (m * es)) none = _
    rw [Nat.ble_eq_true_of_le hm, ifb_true, h, ob_some]
    show sub c (kk * es) (m * es) = _
    rw [sub_eq (by omega), List.take_take, Nat.min_eq_left hmul]
end Go.Eng
