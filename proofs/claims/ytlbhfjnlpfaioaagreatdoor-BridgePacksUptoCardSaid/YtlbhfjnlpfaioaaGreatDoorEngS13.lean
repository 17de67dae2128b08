/- The engine: calls that leave nothing behind, as oracles. -/
import Derived.Test.YtlbhfjnlpfaioaaGreatDoorEngS12
namespace Go.Eng
open Go
variable {P : Program}

/-- The world's old memory is as it was, and so is all that a program may ask of it. -/
structure Quiet (w w' : World) : Prop where
  os : w'.os = w.os
  tape : w'.tape = w.tape
  output : w'.output = w.output
  size : w.heap.size ≤ w'.heap.size
  heap : ∀ k, k < w.heap.size → w'.heap[k]? = w.heap[k]?

/-- values whose pointers lead to package variables (or to the handles behind them) alone -/
def idV (G : Nat) : Nat → Value → Bool
  | 0, _ => false
  | n + 1, v =>
    match v with
    | .int _ _ | .bool _ | .string _ | .pointer none | .map none | .nilFunc | .nilIface => true
    | .pointer (some ⟨b, _, none⟩) => Nat.blt b G
    | .slice none 0 0 => true
    | .iface _ x => idV G n x
    | .agg cs => cs.toList.all (idV G n)
    | .tuple cs => cs.toList.all (idV G n)
    | _ => false

theorem idV_rep {ε : Env} {G : Nat} (hg : GOk ε G) : ∀ (n : Nat) (v cv : Value), idV G n v = true → Rep ε v cv → cv = v
  | 0, _, _, h, _ => by simp [idV] at h
  | n + 1, v, cv, h, hr => by
    have L : ∀ {l l' : List Value}, RepL ε l l' → l.all (idV G n) = true → l' = l := by
      intro l
      induction l with
      | nil => intro l' hl _; cases hl; rfl
      | cons x l ih =>
        intro l' hl ha
        cases hl with
        | cons h1 h2 =>
          simp only [List.all_cons, Bool.and_eq_true] at ha
          rw [idV_rep hg n _ _ ha.1 h1, ih h2 ha.2]
    cases hr <;> simp only [idV] at h <;> first | rfl | skip
    all_goals try (simp at h; done)
    case ptr b off a c hm =>
      rw [Nat.blt_eq] at h
      obtain ⟨c', hc⟩ := hg b h
      rw [hc] at hm
      obtain ⟨e, _⟩ := Prod.mk.inj (Option.some.inj hm)
      obtain rfl := Option.some.inj e
      simp
    case iface h1 => rw [idV_rep hg n _ _ h h1]
    case agg h1 => rw [L h1 h]
    case tuple h1 => rw [L h1 h]

theorem rep_idV {ε : Env} {G : Nat} (hg : GOk ε G) : ∀ (n : Nat) (v : Value), idV G n v = true → Rep ε v v
  | 0, _, h => by simp [idV] at h
  | n + 1, v, h => by
    have L : ∀ {l : List Value}, l.all (idV G n) = true → RepL ε l l := by
      intro l
      induction l with
      | nil => intro _; exact .nil
      | cons x l ih =>
        intro ha
        simp only [List.all_cons, Bool.and_eq_true] at ha
        exact .cons (rep_idV hg n _ ha.1) (ih ha.2)
    unfold idV at h
    split at h
    · exact .int _ _
    · exact .bool _
    · exact .string _
    · exact .ptrNil
    · exact .mapNil
    · exact .nilFunc
    · exact .nilIface
    · rename_i b off
      rw [Nat.blt_eq] at h
      obtain ⟨c, hc⟩ := hg b h
      have := Rep.ptr (ε := ε) (off := off) hc
      simpa using this
    · exact .sliceNil
    · exact .iface (rep_idV hg n _ h)
    · rename_i cs; obtain ⟨cs⟩ := cs; exact .agg (L h)
    · rename_i cs; obtain ⟨cs⟩ := cs; exact .tuple (L h)
    · cases h

/-- package variables that are only read -/
noncomputable def roH (next : Nat) (need : List (Nat × List Value)) : AHeap := List.rec { t := .nil, next := next } (fun x _ ih => ih.set x.1 (some (.cells x.2 .ro))) need

theorem roH_next (next : Nat) : ∀ need : List (Nat × List Value), (roH next need).next = next
  | [] => rfl
  | _ :: l => roH_next next l

theorem roH_get (next : Nat) : ∀ (need : List (Nat × List Value)), ∀ b x, (roH next need).get b = some x → ∃ c, (b, c) ∈ need ∧ x = .cells c .ro
  | [], b, x, h => by
    have : (roH next []).get b = none := by
      exact Tr.get_nil _
    rw [this] at h; cases h
  | y :: l, b, x, h => by
    have h' : ((roH next l).set y.1 (some (.cells y.2 .ro))).get b = some x := h
    rw [AHeap.get_set _ _] at h'
    simp only [AMap.set] at h'
    split at h'
    · rename_i e
      exact ⟨y.2, by rw [e]; exact .head _, (Option.some.inj h').symm⟩
    · obtain ⟨c, h1, h2⟩ := roH_get next l b x h'
      exact ⟨c, .tail _ h1, h2⟩

def needOk (G : Nat) (need : List (Nat × List Value)) : Bool := need.all fun x => Nat.blt x.1 G && x.2.all (idV G 8)

/-- A call that says v and leaves nothing behind, in every world whose package variables hold what they should. -/
def PureCall (P : Program) (_G : Nat) (need : List (Nat × List Value)) (f : FuncId) (args : List Value) (v : Value) : Prop :=
  ∀ w, (∀ x ∈ need, ∀ i u, x.2[i]? = some u → w.cell? ⟨x.1, i, none⟩ = some u) → (∀ x ∈ need, x.1 < w.heap.size) → Calls P f ⟨args⟩ w fun
    | .returned cv, w' => cv = v ∧ Quiet w w'
    | _, _ => False

theorem pureCall_of {G : Nat} {need : List (Nat × List Value)} {f : FuncId} {args : List Value} {v : Value} {next : Nat} {σ' : AHeap} (_hG : G ≤ lim) (hn : G ≤ next) (hneed : needOk G need = true) (ha : args.all (closedD 8) = true) (hv : closedD 8 v = true)
    (h : CallOk P G f args (roH next need) v σ') : PureCall P G need f args v := by
  intro w hw hsz
  have hneed' : ∀ x ∈ need, x.1 < G ∧ x.2.all (idV G 8) = true := fun x hx => by
    have := List.all_eq_true.1 hneed x hx
    rw [Bool.and_eq_true, Nat.blt_eq] at this
    exact this
  have hget := roH_get next need
  let ε : Env := ⟨fun b => if b < G then some (some ⟨b, 0, none⟩, 0) else none, fun _ => .nilIface, fun _ => rfl⟩
  have hm : ∀ b, b < G → ε.m b = some (some ⟨b, 0, none⟩, 0) := fun b hb => by simp [ε, hb]
  have he : Emb ε (roH next need).get w := by
    refine ⟨fun b x hx => ?_, fun b b' x x' a a' n n' _ hx _ ho => ?_⟩
    · obtain ⟨c, h1, rfl⟩ := hget b x hx
      obtain ⟨h2, h3⟩ := hneed' _ h1
      refine .inr ⟨⟨b, 0, none⟩, 0, hm b h2, hsz _ h1, fun i u hi => ⟨u, ?_, ?_⟩, trivial⟩
      · have := hw _ h1 i u hi
        simpa using this
      · exact rep_idV (G := G) (fun g hg => ⟨0, hm g hg⟩) 8 u (List.all_eq_true.1 h3 u (List.mem_of_getElem? hi))
    · obtain ⟨c, h1, rfl⟩ := hget b x hx
      cases ho
  have hargs : RepL ε args args := closed_list fun u hu => List.all_eq_true.1 ha u hu
  refine (h.2 ε args w he hargs (fun g hg => ⟨0, hm g hg⟩) (fun b h1 _ => by
    rw [roH_next] at h1
    have : ¬ b < G := by omega
    simp [ε, this])).mono fun e w' hR => ?_
  cases e with
  | returned cv =>
    obtain ⟨ε', h1, h2⟩ := hR
    refine ⟨closed_same hv h1, h2.os, h2.tape, h2.output, h2.size, fun k hk => h2.frame k hk ?_⟩
    rintro ⟨b, x, a, n, hx, ho, _, _⟩
    obtain ⟨c, _, rfl⟩ := hget b x hx
    cases ho
  | panicked c => exact hR.elim
  | outgrown => exact hR.elim

/-- a step on which nothing turns -/
theorem Quiet.step {ε : Env} {g : AMap} {w w' : World} (n : Nat) (h : Quiet w w') (he : Emb ε g w) : Step n n ε g w ε g w' :=
  ⟨Nat.le_refl _, .refl _, fun _ _ => rfl, ⟨fun b x hx => (he.ok b x hx).keep (.refl _) h.size fun _ _ hm => h.heap _ ((he.ok b x hx).lt hm), he.inj⟩, h.os, h.tape, h.output, h.size, fun k hk _ => h.heap k hk, fun _ hk => .inl hk, fun _ _ hb _ => hb⟩

/-- the heap holds them -/
noncomputable def holdsB (σ : AHeap) (need : List (Nat × List Value)) : Bool := List.rec true (fun x _ ih => match σ.get x.1 with
  | some (.cells c _) => ifb (vEq.eqL (vEq 3) c x.2) ih false
  | _ => false) need

theorem eqL_eq (n : Nat) : ∀ (l r : List Value), vEq.eqL (vEq n) l r = true → l = r
  | [], [], _ => rfl
  | [], _ :: _, h => by cases h
  | _ :: _, [], h => by cases h
  | x :: l, y :: r, h => by
    have h' : (vEq n x y && vEq.eqL (vEq n) l r) = true := h
    rw [Bool.and_eq_true] at h'
    rw [vEq_eq n x y h'.1, eqL_eq n l r h'.2]

theorem holdsB_ok {σ : AHeap} : ∀ (need : List (Nat × List Value)), holdsB σ need = true → ∀ x ∈ need, ∃ k, σ.get x.1 = some (.cells x.2 k)
  | [], _, _, h => by cases h
  | y :: l, h, x, hx => by
    have h' : (match σ.get y.1 with
      | some (.cells c _) => ifb (vEq.eqL (vEq 3) c y.2) (holdsB σ l) false
      | _ => false) = true := h
    have both : (∃ k, σ.get y.1 = some (.cells y.2 k)) ∧ holdsB σ l = true := by
      split at h'
      · rename_i c k hg
        cases hc : vEq.eqL (vEq 3) c y.2
        · rw [hc] at h'; cases h'
        · rw [hc] at h'
          exact ⟨⟨k, by rw [hg, eqL_eq 3 c y.2 hc]⟩, h'⟩
      · cases h'
    cases hx with
    | head => exact both.1
    | tail _ hx => exact holdsB_ok l both.2 x hx

/-- a table of calls, as an oracle -/
noncomputable def tblFind (args : List Value) (tbl : List (List Value × Value)) : Option Value := List.rec none (fun e _ ih => ifb (vEq.eqL (vEq 3) args e.1) (some e.2) ih) tbl
noncomputable def tblOrc (need : List (Nat × List Value)) (tbl : List (List Value × Value)) (args : List Value) (σ : AHeap) : Option (Value × AHeap) :=
  ifb (holdsB σ need) (ob (tblFind args tbl) fun v => some (v, σ)) none

theorem tblFind_ok {args : List Value} {v : Value} : ∀ (tbl : List (List Value × Value)), tblFind args tbl = some v → (args, v) ∈ tbl
  | [], h => by cases h
  | e :: l, h => by
    have h' : ifb (vEq.eqL (vEq 3) args e.1) (some e.2) (tblFind args l) = some v := h
    cases hc : vEq.eqL (vEq 3) args e.1
    · rw [hc] at h'; exact .tail _ (tblFind_ok l h')
    · rw [hc] at h'
      obtain rfl := Option.some.inj (show some e.2 = some v from h')
      rw [eqL_eq 3 args e.1 hc]
      exact .head _

theorem tblOrc_ok {G : Nat} {need : List (Nat × List Value)} (hneed : needOk G need = true) {f : FuncId} {tbl : List (List Value × Value)} (ht : ∀ e ∈ tbl, e.1.all (closedD 8) = true ∧ closedD 8 e.2 = true ∧ PureCall P G need f e.1 e.2)
    {args : List Value} {σ σ' : AHeap} {v : Value} (h : tblOrc need tbl args σ = some (v, σ')) : CallOk P G f args σ v σ' := by
  obtain ⟨h1, h⟩ := ifb_eq_some h
  obtain ⟨v', h2, h⟩ := ob_eq_some h
  obtain ⟨rfl, rfl⟩ := Prod.mk.inj (Option.some.inj h)
  obtain ⟨h3, h4, h5⟩ := ht _ (tblFind_ok tbl h2)
  refine ⟨Nat.le_refl _, fun ε cargs w he ha hg _ => ?_⟩
  have hneed' : ∀ x ∈ need, x.1 < G ∧ x.2.all (idV G 8) = true := fun x hx => by
    have := List.all_eq_true.1 hneed x hx
    rw [Bool.and_eq_true, Nat.blt_eq] at this
    exact this
  have hcell : ∀ x ∈ need, (∀ i u, x.2[i]? = some u → w.cell? ⟨x.1, i, none⟩ = some u) ∧ x.1 < w.heap.size := fun x hx => by
    obtain ⟨q1, q2⟩ := hneed' x hx
    obtain ⟨k, hk⟩ := holdsB_ok need h1 x hx
    obtain ⟨c, hc⟩ := hg x.1 q1
    obtain ⟨p1, p2, _⟩ := he.cells hk hc
    refine ⟨fun i u hi => ?_, p1⟩
    obtain ⟨cv, e1, e2⟩ := p2 i u hi
    rw [idV_rep hg 8 u cv (List.all_eq_true.1 q2 u (List.mem_of_getElem? hi)) e2] at e1
    simpa using e1
  obtain rfl := closed_args h3 ha
  refine (h5 w (fun x hx => (hcell x hx).1) (fun x hx => (hcell x hx).2)).mono fun e w' hR => ?_
  cases e with
  | returned cv =>
    obtain ⟨rfl, hq⟩ := hR
    exact ⟨ε, rep_closedD 8 cv h4, hq.step _ he⟩
  | panicked c => exact hR.elim
  | outgrown => exact hR.elim

/-- oracles by function -/
structure PTbl where
  f : FuncId
  need : List (Nat × List Value)
  tbl : List (List Value × Value)

noncomputable def orcOf (l : List PTbl) : Orc := fun f => List.rec none (fun e _ ih => ifb (Nat.beq e.f f) (some (tblOrc e.need e.tbl)) ih) l

def PTbl.Ok (P : Program) (G : Nat) (e : PTbl) : Prop := needOk G e.need = true ∧ ∀ x ∈ e.tbl, x.1.all (closedD 8) = true ∧ closedD 8 x.2 = true ∧ PureCall P G e.need e.f x.1 x.2

theorem orcOf_ok {G : Nat} : ∀ (l : List PTbl), (∀ e ∈ l, e.Ok P G) → OrcOk P G (orcOf l)
  | [], _, f, h, hh => by cases hh
  | e :: l, hl, f, h, hh => by
    have hh' : ifb (Nat.beq e.f f) (some (tblOrc e.need e.tbl)) (orcOf l f) = some h := hh
    cases hc : Nat.beq e.f f
    · rw [hc] at hh'
      exact orcOf_ok l (fun e he => hl e (.tail _ he)) f h hh'
    · rw [hc] at hh'
      obtain rfl := Option.some.inj (show some (tblOrc e.need e.tbl) = some h from hh')
      obtain rfl := Nat.eq_of_beq_eq_true hc
      obtain ⟨h1, h2⟩ := hl e (.head _)
      exact fun args σ v σ' h => tblOrc_ok h1 h2 h

/-- A table's calls, one after the other, by the kernel. -/
noncomputable def runTbl (P : Program) (G : Nat) (orc : Orc) (L N : Nat) (next : Nat) (need : List (Nat × List Value)) (f : FuncId) (tbl : List (List Value × Value)) : Bool :=
  List.rec true (fun e _ ih => match evalTop P G orc L N f e.1 (roH next need) with
    | some (v, _) => ifb (vEq 6 v e.2) (ifb (e.1.all (closedD 8) && closedD 8 e.2) ih false) false
    | none => false) tbl

theorem runTbl_ok (hm : P.follows .mixedOrders = true) {G : Nat} (_hG : G ≤ lim) {orc : Orc} (ho : OrcOk P G orc) {L N next : Nat} (hn : G ≤ next) {need : List (Nat × List Value)} (hneed : needOk G need = true) {f : FuncId} :
    ∀ (tbl : List (List Value × Value)), runTbl P G orc L N next need f tbl = true → ∀ x ∈ tbl, x.1.all (closedD 8) = true ∧ closedD 8 x.2 = true ∧ PureCall P G need f x.1 x.2
  | [], _, _, h => by cases h
  | e :: l, h, x, hx => by
    have h' : (match evalTop P G orc L N f e.1 (roH next need) with
      | some (v, _) => ifb (vEq 6 v e.2) (ifb (e.1.all (closedD 8) && closedD 8 e.2) (runTbl P G orc L N next need f l) false) false
      | none => false) = true := h
    have both : (e.1.all (closedD 8) = true ∧ closedD 8 e.2 = true ∧ PureCall P G need f e.1 e.2) ∧ runTbl P G orc L N next need f l = true := by
      split at h'
      · rename_i v σ' hev
        cases h1 : vEq 6 v e.2
        · rw [h1] at h'; cases h'
        rw [h1, ifb_true] at h'
        cases h2 : (e.1.all (closedD 8) && closedD 8 e.2)
        · rw [h2] at h'; cases h'
        rw [h2, ifb_true] at h'
        rw [Bool.and_eq_true] at h2
        obtain rfl := vEq_eq 6 v e.2 h1
        exact ⟨⟨h2.1, h2.2, pureCall_of _hG hn hneed h2.1 h2.2 (eval_ok hm ho hev)⟩, h'⟩
      · cases h'
    cases hx with
    | head => exact both.1
    | tail _ hx => exact runTbl_ok hm _hG ho hn hneed l both.2 x hx
end Go.Eng
