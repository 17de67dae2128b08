/- The engine with open data: whole numbers, loops, bytes. -/
import Derived.Test.YtlbhfjnlpfaioaaGreatDoorEngY4
import Derived.Test.YtlbhfjnlpfaioaaGreatDoorEngS14
import Derived.ChangeArms
namespace Go.Eng
open Go
variable {P : Program} {G n : Nat} {t : Tr Value} {σ : AHeap} {call : CallF}

theorem wrap64 {x : Int} (h1 : -9223372036854775808 ≤ x) (h2 : x < 9223372036854775808) : IntKind.i64.wrap x = x := by
  have e : IntKind.i64.wrap x = if x % 18446744073709551616 ≥ 9223372036854775808 then x % 18446744073709551616 - 18446744073709551616 else x % 18446744073709551616 := by
    simp [IntKind.wrap, IntKind.bits, IntKind.signed]
  rw [e]
  split <;> omega
theorem wrapU64 {x : Int} (h1 : 0 ≤ x) (h2 : x < 18446744073709551616) : IntKind.u64.wrap x = x := by
  simp only [IntKind.wrap, IntKind.bits, IntKind.signed, Bool.false_and]
  simp; omega
theorem wrapU32 {x : Int} (h1 : 0 ≤ x) (h2 : x < 4294967296) : IntKind.u32.wrap x = x := by
  simp only [IntKind.wrap, IntKind.bits, IntKind.signed, Bool.false_and]
  simp; omega
theorem wrapU16 {x : Int} (h1 : 0 ≤ x) (h2 : x < 65536) : IntKind.u16.wrap x = x := by
  simp only [IntKind.wrap, IntKind.bits, IntKind.signed, Bool.false_and]
  simp; omega
theorem wrapU8 {x : Int} (h1 : 0 ≤ x) (h2 : x < 256) : IntKind.u8.wrap x = x := by
  simp only [IntKind.wrap, IntKind.bits, IntKind.signed, Bool.false_and]
  simp; omega
theorem wrapU8_mod {x : Nat} : IntKind.u8.wrap (x : Int) = ((x % 256 : Nat) : Int) := by
  simp only [IntKind.wrap, IntKind.bits, IntKind.signed, Bool.false_and]
  simp
theorem shr_nat {a j : Nat} : (a : Int).fdiv (2 ^ j) = ((a / 2 ^ j : Nat) : Int) := by
  rw [Int.fdiv_eq_ediv_of_nonneg _ (by exact_mod_cast Nat.zero_le _)]
  norm_cast

/-- A loop, by what holds at each round's beginning, m getting less. -/
theorem wpC_loop {c : Code} {Q : AEx → Tr Value → AHeap → Prop} (I : Nat → Tr Value → AHeap → Prop) (m : Nat) (h0 : I m t σ) (hm : m < LL)
    (hs : ∀ m t σ, I m t σ → wpC P G n call c t σ (thenX (fun t' σ' => ∃ m', m' < m ∧ I m' t' σ') Q)) : wpC P G n call (.loop c) t σ Q := ⟨I, m, h0, hm, hs⟩
theorem LL_big {m : Nat} (h : m < 18446744073709551616) : m < LL := by unfold LL; omega

def bytesV (l : List Nat) : List Value := l.map fun (x : Nat) => .int .u8 (x : Int)
theorem bytesV_append {a b : List Nat} : bytesV (a ++ b) = bytesV a ++ bytesV b := by simp [bytesV]
theorem bytesV_length {a : List Nat} : (bytesV a).length = a.length := by simp [bytesV]
theorem bytesV_one {a : List Nat} : ∀ x ∈ bytesV a, oneV x = true := fun x hx => by
  simp only [bytesV, List.mem_map] at hx
  obtain ⟨y, _, rfl⟩ := hx; rfl
theorem ixSl_eq {es b off m c : Nat} {k : IntKind} {i : Nat} (h : i < m) : ixSl es (.slice (some ⟨b, off, none⟩) m c) (.int k i) = some (.pointer (some ⟨b, off + i * es, none⟩)) := by
  show ifb (Nat.blt i m) _ _ = _
  have : Nat.blt i m = true := by rw [Nat.blt_eq]; exact h
  rw [this]; rfl
theorem ixArr_eq {len size b off : Nat} {k : IntKind} {i : Nat} (h : i < len) : ixArr len size (.pointer (some ⟨b, off, none⟩)) (.int k i) = some (.pointer (some ⟨b, off + i * size, none⟩)) := by
  show ifb (Nat.blt i len) _ _ = _
  have : Nat.blt i len = true := by rw [Nat.blt_eq]; exact h
  rw [this]; rfl
theorem cells_one {v : Value} (h : oneV v = true) : v.cells.toList = [v] := by
  cases v <;> first | rfl | cases h
theorem storeN_one {b o : Nat} {v : Value} {c : List Value} {k : AKind} (hg : σ.get b = some (.cells c k)) (hv : oneV v = true) (hw : writable k = true) (ho : o < c.length) :
    storeN 1 σ (.pointer (some ⟨b, o, none⟩)) v = some (σ.set b (some (.cells (c.take o ++ [v] ++ c.drop (o + 1)) k))) :=
  storeN_eq hg (cells_one hv) rfl hw ho (fun x hx => by rw [List.mem_singleton.1 hx]; exact hv)
theorem bin_shrN {c : Bool} {ty : TypeId} {k k' : IntKind} {a : Nat} {b : Int} (h : 0 ≤ b) : cBin P c .shr ty (.int k (a : Nat)) (.int k' b) = some (.int k ((a / 2 ^ (min b.toNat k.bits) : Nat) : Int)) := by
  rw [bin_shr h, shr_nat]
theorem app_sl {n0 es bytes : Nat} {v x : Value} {n m : Nat} {cs new : List Value} (h : Own σ n0 es v n cs) (hx : Sl σ es x m new) (hb : bytes ≤ 4096) (hn0 : n0 ≤ σ.next) (h1 : ∀ y ∈ new, oneV y = true) (hnm : n + m ≤ 67108864) :
    ∃ v' σ', appWith (srcSl es) es bytes σ v x = some (.val v' σ') ∧ Own σ' n0 es v' (n + m) (cs ++ new) ∧ Ext (blk v) σ σ' ∧ (blk v' = blk v ∨ ∃ b, blk v' = some b ∧ σ.next ≤ b) := by
  obtain ⟨v', σ', e, r⟩ := app_own (bytes := bytes) h hb hn0 hx.len h1 hnm
  refine ⟨v', σ', ?_, r⟩
  show ob (srcSl es σ x) (fun r => appAt es bytes σ v r.1 r.2) = _
  rw [srcSl_sl hx, ob_some]; exact e
theorem Own.blk_ge {n0 es : Nat} {v : Value} {n : Nat} {cs : List Value} (h : Own σ n0 es v n cs) {b : Nat} (hb : blk v = some b) : n0 ≤ b ∧ b < σ.next := by
  cases h with
  | nil => cases hb
  | grown h0 hbn _ _ _ => obtain rfl := Option.some.inj hb; exact ⟨h0, hbn⟩
  | exact _ _ h0 hbn _ _ => obtain rfl := Option.some.inj hb; exact ⟨h0, hbn⟩
/-- what has only been done to a slice of one's own, is nothing to what was there before -/
theorem Ext.own {σ0 σ' : AHeap} {n0 es : Nat} {v : Value} {n : Nat} {cs : List Value} (h : Ext none σ0 σ) (k : Ext (blk v) σ σ') (ho : Own σ n0 es v n cs) (hn : σ0.next ≤ n0) : Ext none σ0 σ' := by
  cases hb : blk v with
  | none => rw [hb] at k; exact h.trans k
  | some b => rw [hb] at k; exact h.drop k (Nat.le_trans hn (ho.blk_ge hb).1)
theorem Own.mono {n0 n1 es : Nat} {v : Value} {n : Nat} {cs : List Value} (h : Own σ n1 es v n cs) (hn : n0 ≤ n1) : Own σ n0 es v n cs := by
  cases h with
  | nil => exact .nil
  | grown h0 hbn h hn' hl => exact .grown (Nat.le_trans hn h0) hbn h hn' hl
  | exact hc hn' h0 hbn h hl => exact .exact hc hn' (Nat.le_trans hn h0) hbn h hl
theorem own_bsl {k : IntKind} {z : Int} {n0 : Nat} (h : n0 ≤ σ.next) : Own (σ.push (.cells [.int k z] .own)) n0 1 (.slice (some ⟨σ.next, 0, none⟩) 1 1) 1 [.int k z] :=
  Own.exact (c := [.int k z]) (by omega) (Nat.le_refl _) h (by rw [AHeap.next_push]; omega) (by rw [AHeap.get_push, if_pos rfl]) rfl
theorem take_fill {a : List Value} {i m : Nat} {z x : Value} (ha : a.length = i) (hm : i < m) : (a ++ List.replicate (m - i) z).take i ++ [x] ++ (a ++ List.replicate (m - i) z).drop (i + 1) = a ++ [x] ++ List.replicate (m - (i + 1)) z := by
  subst ha
  rw [List.take_left, show m - a.length = (m - (a.length + 1)) + 1 by omega, List.replicate_succ, List.drop_append, List.drop_of_length_le (by omega), show a.length + 1 - a.length = 1 by omega]
  simp

/-- All names below n0 hold what they held. -/
structure Kp (n0 : Nat) (σ σ' : AHeap) : Prop where
  up : σ.next ≤ σ'.next
  wf : Wf σ → Wf σ'
  get : ∀ b, b < n0 → σ'.get b = σ.get b
theorem Kp.refl {n0 : Nat} (σ : AHeap) : Kp n0 σ σ := ⟨Nat.le_refl _, id, fun _ _ => rfl⟩
theorem Kp.trans {n0 : Nat} {a b c : AHeap} (h : Kp n0 a b) (k : Kp n0 b c) : Kp n0 a c := ⟨Nat.le_trans h.up k.up, fun w => k.wf (h.wf w), fun x hx => (k.get x hx).trans (h.get x hx)⟩
theorem Kp.le {n0 n1 : Nat} {a b : AHeap} (h : Kp n1 a b) (hn : n0 ≤ n1) : Kp n0 a b := ⟨h.up, h.wf, fun x hx => h.get x (Nat.lt_of_lt_of_le hx hn)⟩
theorem Kp.of_ext {n0 : Nat} {σ' : AHeap} (h : Ext none σ σ') (hn : n0 ≤ σ.next) : Kp n0 σ σ' := ⟨h.up, h.wf, fun b hb => h.get b (Nat.lt_of_lt_of_le hb hn) (by simp)⟩
theorem Kp.of_own {n0 es : Nat} {σ' : AHeap} {v : Value} {n : Nat} {cs : List Value} (h : Ext (blk v) σ σ') (ho : Own σ n0 es v n cs) (hn : n0 ≤ σ.next) : Kp n0 σ σ' := ⟨h.up, h.wf, fun b hb => h.get b (Nat.lt_of_lt_of_le hb hn) (fun e => by have := (ho.blk_ge e).1; omega)⟩
theorem Kp.ext {σ' : AHeap} (h : Kp σ.next σ σ') : Ext none σ σ' := ⟨h.up, h.wf, fun b hb _ => h.get b hb⟩
theorem Kp.push {n0 : Nat} {x : ABlk} (hn : n0 ≤ σ.next) : Kp n0 σ (σ.push x) := .of_ext .push hn
theorem Sl.lt {es : Nat} {v : Value} {n : Nat} {cs : List Value} (h : Sl σ es v n cs) {b : Nat} (hb : blk v = some b) : b < σ.next := by
  cases h with
  | nil => cases hb
  | mark => cases hb
  | exact _ _ hbn _ _ => obtain rfl := Option.some.inj hb; exact hbn
  | grown hbn _ _ _ _ => obtain rfl := Option.some.inj hb; exact hbn
theorem Sl.kp {n0 es : Nat} {σ' : AHeap} {v : Value} {n : Nat} {cs : List Value} (h : Sl σ es v n cs) (k : Kp n0 σ σ') (hn : ∀ b, blk v = some b → b < n0) : Sl σ' es v n cs := by
  cases h with
  | nil => exact .nil
  | mark => exact .mark
  | exact hc hn' hb h hl => exact .exact hc hn' (Nat.lt_of_lt_of_le hb k.up) (by rw [k.get _ (hn _ rfl)]; exact h) hl
  | grown hb h he hne hl => exact .grown (Nat.lt_of_lt_of_le hb k.up) (by rw [k.get _ (hn _ rfl)]; exact h) he hne hl
theorem Sl.kp0 {n0 es : Nat} {σ' : AHeap} {v : Value} {n : Nat} {cs : List Value} (h : Sl σ es v n cs) (k : Kp n0 σ σ') (hn : σ.next ≤ n0) : Sl σ' es v n cs := h.kp k fun _ hb => Nat.lt_of_lt_of_le (h.lt hb) hn

/- fields, cells -/
def fAddr (o : Nat) (x : Value) : Option Value := pt x fun b off => some (.pointer (some ⟨b, off + o, none⟩))
theorem fAddr_eq {o b off : Nat} : fAddr o (.pointer (some ⟨b, off, none⟩)) = some (.pointer (some ⟨b, off + o, none⟩)) := _root_.id rfl
noncomputable def fOne (o : Nat) (x : Value) : Option Value := ag x fun c => nth o c
noncomputable def fAgg (o m : Nat) (x : Value) : Option Value := ag x fun c => ob (sub c o m) fun r => some (.agg ⟨r⟩)
theorem fOne_eq {o : Nat} {c : List Value} : fOne o (.agg ⟨c⟩) = c[o]? := by show nth o c = _; exact nth_eq o c
theorem fAgg_eq {o m : Nat} {c : List Value} (h : o + m ≤ c.length) : fAgg o m (.agg ⟨c⟩) = some (.agg ⟨(c.drop o).take m⟩) := by
  show ob (sub c o m) _ = _
  rw [sub_eq h]; rfl
theorem loadOne_get {b o : Nat} {v : Value} {c : List Value} {k : AKind} (hg : σ.get b = some (.cells c k)) (hv : c[o]? = some v) : loadOne σ (.pointer (some ⟨b, o, none⟩)) = some v := by
  show ob (σ.get b) (fun x => cl x fun c _ => nth o c) = _
  rw [hg, ob_some]
  show nth o c = _
  rw [nth_eq]; exact hv
theorem loadAgg_get {b o m : Nat} {c : List Value} {k : AKind} (hg : σ.get b = some (.cells c k)) (hl : o + m ≤ c.length) : loadAgg m σ (.pointer (some ⟨b, o, none⟩)) = some (.agg ⟨(c.drop o).take m⟩) := by
  show ob (σ.get b) (fun x => cl x fun c _ => ob (sub c o m) fun r => some (Value.agg ⟨r⟩)) = _
  rw [hg, ob_some]
  show ob (sub c o m) _ = _
  rw [sub_eq hl]; rfl
theorem aNew_agg {cs : List Value} (h : ∀ x ∈ cs, oneV x = true) : aNew σ (.agg ⟨cs⟩) = some (.val (.pointer (some ⟨σ.next, 0, none⟩)) (σ.push (.cells cs .own))) := by
  show ifb (allL oneV cs) (Go.Eng.push σ (.cells cs .own) _) none = _
  rw [allL_of _ _ h]; rfl
theorem aNew_one {v : Value} (h : oneV v = true) : aNew σ v = some (.val (.pointer (some ⟨σ.next, 0, none⟩)) (σ.push (.cells [v] .own))) := by
  show (fun vs => ifb (allL oneV vs) (Go.Eng.push σ (.cells vs .own) fun b σ' => some (AR.val (.pointer (some ⟨b, 0, none⟩)) σ')) none) v.cells.toList = _
  rw [cells_one h]
  show ifb (allL oneV [v]) _ _ = _
  rw [allL_of _ _ (fun x hx => by rw [List.mem_singleton.1 hx]; exact h)]; rfl

/-- an array as a slice -/
theorem slArr_all {n size b off : Nat} (hn : n < BIG) (h0 : n ≠ 0) : slArr n size (.pointer (some ⟨b, off, none⟩)) none none none = some (.slice (some ⟨b, off, none⟩) n n) := by
  show ob (aHigh n n none) (fun h => ob (aLow h none) fun l => ifb (Nat.blt n BIG) (some (Value.slice (at_ b off l size n) (h - l) (n - l))) none) = _
  rw [aHigh_eq .none (Nat.le_refl _) (Nat.le_refl _), ob_some, aLow_eq .none (Nat.zero_le _), ob_some]
  have : Nat.blt n BIG = true := by rw [Nat.blt_eq]; exact hn
  rw [this, ifb_true]
  obtain ⟨o, e1, e2⟩ := at_eq b off 0 size n
  rw [e1, e2 h0]; simp

/- == of lists of numbers of one kind -/
def intsV (k : IntKind) (l : List Nat) : List Value := l.map fun (x : Nat) => .int k (x : Int)
theorem eqElems_ints {k : IntKind} {l r : List Nat} : ∀ (n i : Nat), l.length = i + n → r.length = i + n → eqElems eqInt 1 n i (intsV k l) (intsV k r) = some (decide (l.drop i = r.drop i))
  | 0, i, hl, hr => by
    rw [List.drop_of_length_le (by omega), List.drop_of_length_le (by omega)]; rfl
  | n + 1, i, hl, hr => by
    have ih := eqElems_ints (k := k) (l := l) (r := r) n (i + 1) (by omega) (by omega)
    have e1 : nth i (intsV k l) = some (.int k (l[i]'(by omega))) := by rw [nth_eq, intsV, List.getElem?_map, List.getElem?_eq_getElem (by omega)]; rfl
    have e2 : nth i (intsV k r) = some (.int k (r[i]'(by omega))) := by rw [nth_eq, intsV, List.getElem?_map, List.getElem?_eq_getElem (by omega)]; rfl
    show ob (ifb (Nat.beq 1 1) (nth i (intsV k l)) none) (fun u => ob (ifb (Nat.beq 1 1) (nth i (intsV k r)) none) fun v => ob (eqInt u v) fun b => ifb b (eqElems eqInt 1 n (i + 1) (intsV k l) (intsV k r)) (some false)) = _
    rw [show Nat.beq 1 1 = true from rfl, ifb_true, ifb_true, e1, ob_some, e2, ob_some]
    have e3 : eqInt (.int k ((l[i]'(by omega) : Nat) : Int)) (.int k ((r[i]'(by omega) : Nat) : Int)) = some (Nat.beq (l[i]'(by omega)) (r[i]'(by omega))) := by
      show ifb (decide (k = k)) _ _ = _
      simp [ifb]
    rw [e3, ob_some, List.drop_eq_getElem_cons (show i < l.length by omega), List.drop_eq_getElem_cons (show i < r.length by omega)]
    by_cases q : l[i]'(by omega) = r[i]'(by omega)
    · rw [q, Nat.beq_refl, ifb_true, ih]
      congr 1
      exact decide_eq_decide.2 ⟨fun h => by rw [h], fun h => (List.cons.inj h).2⟩
    · have : Nat.beq (l[i]'(by omega)) (r[i]'(by omega)) = false := by
        cases hb : Nat.beq (l[i]'(by omega)) (r[i]'(by omega))
        · rfl
        · exact absurd (Nat.eq_of_beq_eq_true hb) q
      rw [this, ifb_false, decide_eq_false (fun h => q (List.cons.inj h).1)]
theorem closed_ints {k : IntKind} {l : List Nat} : closedD 8 (.agg ⟨intsV k l⟩) = true := by
  show (intsV k l).all (closedD 7) = true
  rw [List.all_eq_true]
  intro x hx
  simp only [intsV, List.mem_map] at hx
  obtain ⟨y, _, rfl⟩ := hx; rfl
theorem otherEq_ints {c : Bool} {ty : TypeId} {k : IntKind} {l r : List Nat} {m : Nat} (hg : P.eqGuardType P.depth ty = false) (he : cEq P 20 ty = fun x y => ag x fun xs => ag y fun ys => eqElems eqInt 1 m 0 xs ys) (hl : l.length = m) (hr : r.length = m) :
    otherEq P c ty (.agg ⟨intsV k l⟩) (.agg ⟨intsV k r⟩) = some (decide (l = r)) := by
  show ifb (P.eqGuardType P.depth ty) none (ifb (closedD 8 (.agg ⟨intsV k l⟩) && closedD 8 (.agg ⟨intsV k r⟩)) (cEq P 20 ty (.agg ⟨intsV k l⟩) (.agg ⟨intsV k r⟩)) none) = _
  rw [hg, ifb_false, closed_ints, closed_ints, he]
  show eqElems eqInt 1 m 0 (intsV k l) (intsV k r) = _
  rw [eqElems_ints m 0 (by omega) (by omega)]; rfl
theorem bin_eqlA {c : Bool} {ty : TypeId} {x y : Array Value} : cBin P c .eql ty (.agg x) (.agg y) = ob (otherEq P c ty (.agg x) (.agg y)) fun b => some (.bool b) := _root_.id rfl
theorem bin_neqA {c : Bool} {ty : TypeId} {x y : Array Value} : cBin P c .neq ty (.agg x) (.agg y) = ob (otherEq P c ty (.agg x) (.agg y)) fun b => some (.bool !b) := _root_.id rfl

/- regions that draw, as equations -/
noncomputable def putO (s : Nat) (x : Option Value) (t : Tr Value) : Tr Value := match x with
  | some v => put s v t
  | none => t
theorem putO_some {s : Nat} {v : Value} : putO s (some v) t = put s v t := _root_.id rfl
theorem restr_cons' {s : Nat} {l : List Nat} : restr t (s :: l) = putO s (fget s t) (restr t l) := by
  cases h : fget s t with
  | none => exact restr_cons_none h
  | some v => exact restr_cons h
section
variable {all : List Oper} {b0 : Nat} {is : List DI} {rd : List RdE} {Q : Tr Value → AHeap → Prop} {j nm : Nat} {rs ah : List Nat} {d : Nat} {op : Op} {ty : TypeId} {pos : String} {after : Array Edge}
theorem wpD_nil : wpD P G n call all b0 [] t σ rd Q = Q t σ := _root_.id rfl
theorem wpD_pure (h1 : d < n) (h2 : d < 65536) : wpD P G n call all b0 (⟨j, ⟨some d, op, ty, pos, after, none⟩, .pure, rs, ah, nm⟩ :: is) t σ rd Q = obP (aop P G op (restr t rs) (emptyH 0)) fun r => (match r with
    | .val v _ => wpD P G n call all b0 is (put d v t) σ rd Q
    | _ => False) := by
  show (obP (aop P G op (restr t rs) (emptyH 0)) fun r => (match r with
    | .val v _ => (d < n ∧ d < 65536) ∧ (some d ≠ none ∧ wpD P G n call all b0 is (put d v t) σ rd Q)
    | _ => False)) = _
  congr 1
  funext r
  cases r <;> simp [h1, h2]
theorem wpD_read (h1 : d < n) (h2 : d < 65536) : wpD P G n call all b0 (⟨j, ⟨some d, op, ty, pos, after, none⟩, .read, rs, ah, nm⟩ :: is) t σ rd Q = obP (aop P G op (restr t rs) σ) fun r => (match r with
    | .val v _ => wpD P G n call all b0 is (put d v t) σ (⟨⟨j, ⟨some d, op, ty, pos, after, none⟩, .read, rs, ah, nm⟩, restr t rs, v⟩ :: rd) Q
    | _ => False) := by
  show (obP (aop P G op (restr t rs) σ) fun r => (match r with
    | .val v _ => (d < n ∧ d < 65536) ∧ (some d ≠ none ∧ wpD P G n call all b0 is (put d v t) σ (⟨⟨j, ⟨some d, op, ty, pos, after, none⟩, .read, rs, ah, nm⟩, restr t rs, v⟩ :: rd) Q)
    | _ => False)) = _
  congr 1
  funext r
  cases r <;> simp [h1, h2]
end
theorem Sl.uniq {es : Nat} {v : Value} {n m : Nat} {a b : List Value} (h : Sl σ es v n a) (k : Sl σ es v m b) : n = m ∧ a = b := by
  have e1 := lenA_sl h
  have e2 := lenA_sl k
  obtain rfl : n = m := Option.some.inj (e1.symm.trans e2)
  have f1 := h.src n (Nat.le_refl _)
  have f2 := k.src n (Nat.le_refl _)
  rw [← h.len, List.take_length] at f1
  rw [← k.len, List.take_length] at f2
  exact ⟨rfl, Option.some.inj (f1.symm.trans f2)⟩
/-- a function's region -/
def regionOf (id : Nat) : Code → Option (Array Oper)
  | .region i ops _ => if i == id then some ops else none
  | .seq a b => match regionOf id a with
    | some x => some x
    | none => regionOf id b
  | .cond _ a b => match regionOf id a with
    | some x => some x
    | none => regionOf id b
  | .block _ c => regionOf id c
  | .loop c => regionOf id c
  | .scope c => regionOf id c
  | .rangeFunc _ _ a b => match regionOf id a with
    | some x => some x
    | none => regionOf id b
  | _ => none
def regOps (f : Func) (id : Nat) : List Oper := ((f.body.bind (regionOf id)).getD #[]).toList
theorem wpC_draw {id : Nat} {ops : Array Oper} {is : List DI} {Q : AEx → Tr Value → AHeap → Prop} (m : Nat) (h : drawInfo ops.toList = is) (hl : Nat.beq is.length ops.toList.length = true) (hm : newsIn is = m) (hf : laterFree σ.next σ is = true)
    (hk : wpD P G n call ops.toList σ.next is t (σ.skip m) [] (fun t σ => Q .normal t σ)) : wpC P G n call (.region id ops true) t σ Q := by
  subst hm
  exact ⟨is, h, hl, hf, hk⟩
theorem wpC_draw0 {id : Nat} {ops : Array Oper} {is : List DI} {Q : AEx → Tr Value → AHeap → Prop} (h : drawInfo ops.toList = is) (hl : Nat.beq is.length ops.toList.length = true) (hm : newsIn is = 0) (hf : laterFree σ.next σ is = true)
    (hk : wpD P G n call ops.toList σ.next is t σ [] (fun t σ => Q .normal t σ)) : wpC P G n call (.region id ops true) t σ Q := wpC_draw 0 h hl hm hf hk
theorem bin_remN {c : Bool} {ty : TypeId} {k : IntKind} {a : Nat} {b : Int} (h : 0 < b) : cBin P c .rem ty (.int k (a : Nat)) (.int k b) = some (.int k ((a % b.toNat : Nat) : Int)) := by
  obtain ⟨b', rfl⟩ : ∃ b' : Nat, b = (b' : Nat) := ⟨b.toNat, by omega⟩
  rw [bin_rem (by omega), Int.toNat_natCast, Int.tmod_eq_emod_of_nonneg (by omega)]
  norm_cast
theorem bin_quoN {c : Bool} {ty : TypeId} {k : IntKind} {a : Nat} {b : Int} (h : 0 < b) : cBin P c .quo ty (.int k (a : Nat)) (.int k b) = some (.int k (k.wrap ((a / b.toNat : Nat) : Int))) := by
  obtain ⟨b', rfl⟩ : ∃ b' : Nat, b = (b' : Nat) := ⟨b.toNat, by omega⟩
  rw [bin_quo (by omega), Int.toNat_natCast, Int.tdiv_eq_ediv_of_nonneg (by omega)]
  norm_cast
theorem wpG_if {w c : Bool} {A B : Prop} (h1 : c = w → A) (h2 : c ≠ w → B) : wpG w (some (.bool c)) A B := ⟨h1, h2⟩
theorem bsl_one {k : IntKind} {z : Int} {w : Value} : bsl [w] 1 1 σ [(0, .int k z)] = some (.val (.slice (some ⟨σ.next, 0, none⟩) 1 1) (σ.push (.cells [.int k z] .own))) := _root_.id rfl
theorem wpC_regionL {id : Nat} {l : List Oper} {Q : AEx → Tr Value → AHeap → Prop} : wpC P G n call (.region id l.toArray false) t σ Q = wpL P G n call l l t σ (fun t σ => Q .normal t σ) := by
  rw [wpC_region, List.toList_toArray]
theorem wpC_regionA {id : Nat} {l : List Oper} {Q : AEx → Tr Value → AHeap → Prop} : wpC P G n call (.region id ⟨l⟩ false) t σ Q = wpL P G n call l l t σ (fun t σ => Q .normal t σ) := _root_.id rfl
theorem Sl.one {es : Nat} {v : Value} {n : Nat} {cs : List Value} (h : Sl σ es v n cs) : oneV v = true := by cases h <;> rfl
theorem storeN_all {b m : Nat} {v : Value} {c vs : List Value} {k : AKind} (hg : σ.get b = some (.cells c k)) (hv : v.cells.toList = vs) (hl : vs.length = m) (hc : c.length = m) (hw : writable k = true) (h1 : ∀ x ∈ vs, oneV x = true) :
    storeN m σ (.pointer (some ⟨b, 0, none⟩)) v = some (σ.set b (some (.cells vs k))) := by
  rw [storeN_eq hg hv hl hw (by omega) h1, List.take_zero, List.nil_append, List.drop_of_length_le (by omega), List.append_nil]
/-- a new block, filled -/
theorem push_store {m : Nat} {v : Value} {c vs : List Value} (hv : v.cells.toList = vs) (hl : vs.length = m) (hc : c.length = m) (h1 : ∀ x ∈ vs, oneV x = true) :
    ∃ σ', storeN m (σ.push (.cells c .own)) (.pointer (some ⟨σ.next, 0, none⟩)) v = some σ' ∧ σ'.get σ.next = some (.cells vs .own) ∧ σ'.next = σ.next + 1 ∧ Ext none σ σ' :=
  ⟨_, storeN_all (by rw [AHeap.get_push, if_pos rfl]) hv hl hc rfl h1, by rw [AHeap.get_set', if_pos rfl], rfl, Ext.push.drop (.set (by rw [AHeap.next_push]; omega)) (Nat.le_refl _)⟩
end Go.Eng
/- The engine with open data: from arguments as a law's row reads them to an abstract heap. -/
namespace Go.Eng
open Go
variable {P : Program} {G : Nat}

/-- data without pointers -/
inductive Dt where
  | int (z : Int)
  | bool (b : Bool)
  | agg (l : List Dt)
  | sl (l : List Dt)

/-- what stands in cells, as a type has it -/
inductive ARd (P : Program) (σ : AHeap) : TypeId → List Value → Dt → Prop
  | int {t : TypeId} {k : IntKind} {z : Int} (ht : P.underlying t = some (.int k)) (hz : k.min ≤ z ∧ z ≤ k.max) : ARd P σ t [.int k z] (.int z)
  | bool {t : TypeId} {b : Bool} (ht : P.underlying t = some .bool) : ARd P σ t [.bool b] (.bool b)
  | arr {t e : TypeId} {n : Nat} {cs : List Value} {ds : List Dt} (ht : P.underlying t = some (.array n e)) (hl : cs.length = P.cellsOf t) (hd : ds.length = n)
      (h : ∀ (i : Nat) (d : Dt), ds[i]? = some d → ARd P σ e ((cs.drop (i * P.cellsOf e)).take (P.cellsOf e)) d) : ARd P σ t cs (.agg ds)
  | str {t : TypeId} {fs : Array Field} {cs : List Value} {ds : List Dt} (ht : P.underlying t = some (.struct fs)) (hl : cs.length = P.cellsOf t) (hd : ds.length = fs.size)
      (h : ∀ (i : Nat) (f : Field) (d : Dt), fs[i]? = some f → ds[i]? = some d → ARd P σ f.type ((cs.drop f.offset).take (P.cellsOf f.type)) d) : ARd P σ t cs (.agg ds)
  | sl {t e : TypeId} {v : Value} {n : Nat} {cs : List Value} {ds : List Dt} (ht : P.underlying t = some (.slice e)) (hs : Sl σ (P.cellsOf e) v n cs) (hd : ds.length = n)
      (h : ∀ (i : Nat) (d : Dt), ds[i]? = some d → ARd P σ e ((cs.drop (i * P.cellsOf e)).take (P.cellsOf e)) d) : ARd P σ t [v] (.sl ds)

theorem ARd.ext {σ σ' : AHeap} (e : Ext none σ σ') {t : TypeId} {cs : List Value} {d : Dt} (h : ARd P σ t cs d) : ARd P σ' t cs d := by
  induction h with
  | int ht hz => exact .int ht hz
  | bool ht => exact .bool ht
  | arr ht hl hd _ ih => exact .arr ht hl hd ih
  | str ht hl hd _ ih => exact .str ht hl hd ih
  | sl ht hs hd _ ih => exact .sl ht (hs.ext0 e) hd ih

/-- a datum of the rows, and the data without pointers -/
inductive DR {H : Type} : DataW H → Dt → Prop
  | int (k : IntKind) (z : Int) : DR (.lit (.int k z)) (.int z)
  | bool (b : Bool) : DR (.lit (.bool b)) (.bool b)
  | agg {l : List (DataW H)} {r : List Dt} (hl : l.length = r.length) (h : ∀ (i : Nat) (a : DataW H) (b : Dt), l[i]? = some a → r[i]? = some b → DR a b) : DR (.agg l) (.agg r)
  | nil : DR .nil (.sl [])
  | sl {l s : List (DataW H)} {r : List Dt} (hl : l.length = r.length) (h : ∀ (i : Nat) (a : DataW H) (b : Dt), l[i]? = some a → r[i]? = some b → DR a b) : DR (.slice l s) (.sl r)

/-- a world read so far: nothing but what is only read -/
structure LS (w : World) (ε : Env) (σ : AHeap) : Prop where
  emb : Emb ε σ.get w
  fresh : ∀ b, σ.next ≤ b → ε.m b = none
  wf : Wf σ
  ro : ∀ b x, σ.get b = some x → x.isOwn = false

def Lifts {H : Type} (P : Program) (w : World) (t : TypeId) (cs : List Value) (d : DataW H) : Prop :=
  ∀ ε σ, LS w ε σ → ∃ ε' σ' acs dt, LS w ε' σ' ∧ ε.Le ε' ∧ Ext none σ σ' ∧ RepL ε' acs cs ∧ ARd P σ' t acs dt ∧ DR d dt

theorem liftAll {H : Type} {w : World} : ∀ (js : List (TypeId × List Value × DataW H)), (∀ j ∈ js, Lifts P w j.1 j.2.1 j.2.2) → ∀ ε σ, LS w ε σ →
    ∃ (ε' : Env) (σ' : AHeap) (r : List (List Value × Dt)), LS w ε' σ' ∧ ε.Le ε' ∧ Ext none σ σ' ∧ r.length = js.length ∧
      ∀ (i : Nat) (j : TypeId × List Value × DataW H) (y : List Value × Dt), js[i]? = some j → r[i]? = some y → RepL ε' y.1 j.2.1 ∧ ARd P σ' j.1 y.1 y.2 ∧ DR j.2.2 y.2
  | [], _, ε, σ, hs => ⟨ε, σ, [], hs, .refl _, .refl _, rfl, fun i j y h => by simp at h⟩
  | j :: js, hj, ε, σ, hs => by
    obtain ⟨ε1, σ1, acs, dt, s1, l1, e1, r1, a1, d1⟩ := hj j (.head _) ε σ hs
    obtain ⟨ε2, σ2, r, s2, l2, e2, hl, hr⟩ := liftAll js (fun x hx => hj x (.tail _ hx)) ε1 σ1 s1
    refine ⟨ε2, σ2, (acs, dt) :: r, s2, l1.trans l2, e1.trans e2, by simp [hl], fun i x y hx hy => ?_⟩
    cases i with
    | zero =>
      simp only [List.getElem?_cons_zero, Option.some.injEq] at hx hy
      subst hx; subst hy
      exact ⟨r1.mono l2, a1.ext e2, d1⟩
    | succ i =>
      simp only [List.getElem?_cons_succ] at hx hy
      exact hr i x y hx hy

/- lists of pieces, one behind the other -/
theorem flat_piece {α : Type} {es : Nat} : ∀ (l : List (List α)), (∀ x ∈ l, x.length = es) → ∀ (i : Nat) (x : List α), l[i]? = some x → (l.flatten.drop (i * es)).take es = x
  | [], _, i, x, h => by simp at h
  | y :: l, hl, i, x, h => by
    have hy := hl y (.head _)
    cases i with
    | zero =>
      simp only [List.getElem?_cons_zero, Option.some.injEq] at h
      subst h
      simp only [List.flatten_cons, Nat.zero_mul, List.drop_zero, ← hy, List.take_left]
    | succ i =>
      simp only [List.getElem?_cons_succ] at h
      have := flat_piece l (fun z hz => hl z (.tail _ hz)) i x h
      rw [List.flatten_cons, Nat.succ_mul, Nat.add_comm, ← hy, List.drop_append, List.drop_of_length_le (by omega), List.nil_append, Nat.add_sub_cancel_left]
      rw [← hy] at this
      exact this
theorem flat_len {α : Type} {es : Nat} : ∀ (l : List (List α)), (∀ x ∈ l, x.length = es) → l.flatten.length = l.length * es
  | [], _ => by simp
  | y :: l, hl => by
    rw [List.flatten_cons, List.length_append, hl y (.head _), flat_len l fun z hz => hl z (.tail _ hz), List.length_cons, Nat.succ_mul, Nat.add_comm]
/-- cells that stand for pieces stand for the whole -/
theorem repL_flat {ε : Env} {es : Nat} : ∀ (n : Nat) (l : List (List Value)) (cs : List Value), l.length = n → cs.length = n * es → (∀ (i : Nat) (x : List Value), l[i]? = some x → RepL ε x ((cs.drop (i * es)).take es)) → RepL ε l.flatten cs
  | 0, l, cs, hl, hc, _ => by
    obtain rfl := List.length_eq_zero_iff.1 hl
    obtain rfl : cs = [] := List.length_eq_zero_iff.1 (by simpa using hc)
    exact .nil
  | n + 1, [], _, hl, _, _ => by simp at hl
  | n + 1, x :: l, cs, hl, hc, h => by
    have h0 := h 0 x rfl
    simp only [Nat.zero_mul, List.drop_zero] at h0
    have ht := repL_flat (es := es) n l (cs.drop es) (by simpa using hl) (by rw [List.length_drop, hc, Nat.succ_mul]; omega) fun i y hy => by
      have := h (i + 1) y hy
      rw [Nat.succ_mul] at this
      rw [List.drop_drop, Nat.add_comm]; exact this
    rw [List.flatten_cons]
    have := h0.append ht
    rwa [List.take_append_drop] at this

/-- a struct's fields stand one behind the other -/
def offsOk (P : Program) : List Field → Nat → Nat → Bool
  | [], n, m => n == m
  | f :: fs, n, m => f.offset == n && offsOk P fs (n + P.cellsOf f.type) m
/-- types without pointers, maps and their kin -/
def simpleT (P : Program) : Nat → TypeId → Bool
  | 0, _ => false
  | d + 1, t => match P.underlying t with
    | some (.int _) => P.cellsOf t == 1
    | some .bool => P.cellsOf t == 1
    | some (.slice e) => P.cellsOf t == 1 && (Nat.blt 0 (P.cellsOf e) && simpleT P d e)
    | some (.array n e) => P.cellsOf t == n * P.cellsOf e && simpleT P d e
    | some (.struct fs) => offsOk P fs.toList 0 (P.cellsOf t) && fs.toList.all fun f => simpleT P d f.type
    | _ => false

theorem offs_rep {ε : Env} : ∀ (fs : List Field) (n m : Nat) (l : List (List Value)) (cs : List Value), offsOk P fs n m = true → l.length = fs.length → cs.length = m → n ≤ m →
    (∀ (i : Nat) (f : Field) (x : List Value), fs[i]? = some f → l[i]? = some x → RepL ε x ((cs.drop f.offset).take (P.cellsOf f.type)) ∧ x.length = P.cellsOf f.type) → RepL ε l.flatten (cs.drop n) ∧ l.flatten.length = m - n ∧
      ∀ (i : Nat) (f : Field) (x : List Value), fs[i]? = some f → l[i]? = some x → n ≤ f.offset ∧ (l.flatten.drop (f.offset - n)).take (P.cellsOf f.type) = x
  | [], n, m, l, cs, ho, hl, hc, hn, h => by
    obtain rfl := List.length_eq_zero_iff.1 (show l.length = 0 from hl)
    have : n = m := by simpa [offsOk] using ho
    refine ⟨?_, by simp; omega, fun i f x hf => by simp at hf⟩
    rw [List.drop_of_length_le (by omega)]
    exact .nil
  | f :: fs, n, m, [], cs, ho, hl, _, _, _ => by simp at hl
  | f :: fs, n, m, x :: l, cs, ho, hl, hc, hn, h => by
    simp only [offsOk, Bool.and_eq_true, beq_iff_eq] at ho
    obtain ⟨ho1, ho2⟩ := ho
    obtain ⟨h0, h0l⟩ := h 0 f x rfl rfl
    have hlen : n + P.cellsOf f.type ≤ m := by
      have := h0.length
      rw [h0l, List.length_take, List.length_drop, ho1, hc] at this
      omega
    obtain ⟨q1, q2, q3⟩ := offs_rep fs (n + P.cellsOf f.type) m l cs ho2 (by simpa using hl) hc hlen fun i g y hg hy => h (i + 1) g y hg hy
    refine ⟨?_, ?_, fun i g y hg hy => ?_⟩
    · rw [List.flatten_cons]
      have e : cs.drop n = (cs.drop n).take (P.cellsOf f.type) ++ cs.drop (n + P.cellsOf f.type) := by
        rw [← List.drop_drop, List.take_append_drop]
      rw [e]
      rw [ho1] at h0
      exact h0.append q1
    · rw [List.flatten_cons, List.length_append, h0l, q2]; omega
    · cases i with
      | zero =>
        simp only [List.getElem?_cons_zero, Option.some.injEq] at hg hy
        subst hg; subst hy
        refine ⟨by omega, ?_⟩
        rw [ho1, Nat.sub_self, List.drop_zero, List.flatten_cons, ← h0l, List.take_left]
      | succ i =>
        simp only [List.getElem?_cons_succ] at hg hy
        obtain ⟨p1, p2⟩ := q3 i g y hg hy
        refine ⟨by omega, ?_⟩
        rw [List.flatten_cons, show g.offset - n = x.length + (g.offset - (n + P.cellsOf f.type)) by omega, List.drop_append, List.drop_of_length_le (by omega), List.nil_append, Nat.add_sub_cancel_left]
        exact p2

theorem mapM_some {α β : Type} (f : α → Option β) : ∀ (l : List α) (r : List β), l.mapM f = some r → r.length = l.length ∧ ∀ (i : Nat) (a : α), l[i]? = some a → r[i]? = f a
  | [], r, h => by
    obtain rfl : [] = r := by simpa using h
    exact ⟨rfl, fun i a h => by simp at h⟩
  | x :: l, r, h => by
    rw [List.mapM_cons] at h
    cases hx : f x with
    | none => rw [hx] at h; cases h
    | some y =>
      cases hl : l.mapM f with
      | none => rw [hx, hl] at h; cases h
      | some t =>
        rw [hx, hl] at h
        obtain rfl : y :: t = r := by simpa using h
        obtain ⟨q1, q2⟩ := mapM_some f l t hl
        refine ⟨by simp [q1], fun i a ha => ?_⟩
        cases i with
        | zero =>
          simp only [List.getElem?_cons_zero, Option.some.injEq] at ha ⊢
          rw [← ha, hx]
        | succ i =>
          simp only [List.getElem?_cons_succ] at ha ⊢
          exact q2 i a ha
theorem mapM_range {β : Type} {f : Nat → Option β} {n : Nat} {r : List β} (h : (List.range n).mapM f = some r) : r.length = n ∧ ∀ k, k < n → r[k]? = f k := by
  obtain ⟨h1, h2⟩ := mapM_some f _ _ h
  exact ⟨by simpa using h1, fun k hk => h2 k k (by simp [hk])⟩

theorem trod_len {H : Type} {enc : TypeId × Value → H} {w : World} {base : Nat} {spare : Nat → Bool} {held : Bool} {fuel d : Nat} {t : TypeId} {cs : List Value} {x : DataW H × List MemPlace}
    (hs : simpleT P d t = true) (h : DataW.trod enc P w base spare held fuel t cs = some x) : cs.length = P.cellsOf t := by
  cases d with
  | zero => simp [simpleT] at hs
  | succ d =>
    unfold simpleT at hs
    split at hs
    · rename_i k ht
      obtain ⟨z, rfl, _, _⟩ := DataW.trod_int ht h
      exact (eq_of_beq hs).symm
    · rename_i ht
      obtain ⟨b, rfl, _⟩ := DataW.trod_bool ht h
      exact (eq_of_beq hs).symm
    · rename_i e ht
      rw [Bool.and_eq_true] at hs
      rcases DataW.trod_slice ht h with ⟨rfl, _⟩ | ⟨a, len, cap, elems, rest, n, _, rfl, _⟩
      · exact (eq_of_beq hs.1).symm
      · exact (eq_of_beq hs.1).symm
    · rename_i n e ht
      obtain ⟨xs, m, _, _, hl, _⟩ := DataW.trod_array ht h
      exact hl
    · rename_i fs ht
      obtain ⟨xs, m, _, _, hl, _⟩ := DataW.trod_struct ht h
      exact hl
    · cases hs

theorem lift {H : Type} {enc : TypeId × Value → H} {w : World} {base : Nat} {spare : Nat → Bool} {held : Bool} : ∀ (fuel d : Nat) (t : TypeId) (cs : List Value) (x : DataW H × List MemPlace),
    simpleT P d t = true → DataW.trod enc P w base spare held fuel t cs = some x → Lifts P w t cs x.1 := by
  intro fuel
  induction fuel with
  | zero => intro d t cs x _ h; simp [DataW.trod] at h
  | succ fuel ih =>
    intro d t cs x hs h
    cases d with
    | zero => simp [simpleT] at hs
    | succ d =>
      unfold simpleT at hs
      split at hs
      · rename_i k ht
        obtain ⟨z, rfl, rfl, hw⟩ := DataW.trod_int ht h
        intro ε σ hσ
        refine ⟨ε, σ, [.int k z], .int z, hσ, .refl _, .refl _, .cons (.int _ _) .nil, .int ht ?_, .int k z⟩
        simpa [Lit.wf] using hw
      · rename_i ht
        obtain ⟨b, rfl, rfl⟩ := DataW.trod_bool ht h
        exact fun ε σ hσ => ⟨ε, σ, [.bool b], .bool b, hσ, .refl _, .refl _, .cons (.bool _) .nil, .bool ht, .bool b⟩
      · rename_i e ht
        rw [Bool.and_eq_true, Bool.and_eq_true, Nat.blt_eq] at hs
        obtain ⟨_, he, hs⟩ := hs
        rcases DataW.trod_slice ht h with ⟨rfl, rfl⟩ | ⟨a, len, cap, elems, rest, n, hn, rfl, rfl, _, hlc, hcm, hel, hget, _, _⟩
        · exact fun ε σ hσ => ⟨ε, σ, [.slice none 0 0], .sl [], hσ, .refl _, .refl _, .cons .sliceNil .nil, .sl ht .nil rfl (fun i d h => by simp at h), .nil⟩
        · obtain rfl : n = fuel := by omega
          by_cases h0 : len = 0
          · subst h0
            obtain rfl := List.length_eq_zero_iff.1 hel
            exact fun ε σ hσ => ⟨ε, σ, [emptyMark], .sl [], hσ, .refl _, .refl _, .cons (.empty _ _) .nil, .sl ht .mark rfl (fun i d h => by simp at h), .sl rfl (fun i a b h => by simp at h)⟩
          intro ε σ hσ
          -- the elements' cells
          have hcell : ∀ i, i < len → ∃ c y, w.cells? base (a.add (i * P.cellsOf e)) (P.cellsOf e) = some c ∧ DataW.trod enc P w base spare held n e c = some y ∧ elems[i]? = some y := fun i hi => by
            have := hget i hi
            rw [List.getElem?_eq_getElem (by omega)] at this
            obtain ⟨c, h1, h2⟩ := Option.bind_eq_some_iff.1 this
            exact ⟨c, elems[i], h1, h2, List.getElem?_eq_getElem (by omega)⟩
          let cel : Nat → List Value := fun i => (w.cells? base (a.add (i * P.cellsOf e)) (P.cellsOf e)).getD []
          let js : List (TypeId × List Value × DataW H) := (List.range len).map fun i => (e, cel i, ((elems[i]?).map (·.1)).getD .nil)
          have hjs : ∀ i, i < len → ∃ c y, js[i]? = some (e, c, y.1) ∧ cel i = c ∧ w.cells? base (a.add (i * P.cellsOf e)) (P.cellsOf e) = some c ∧ DataW.trod enc P w base spare held n e c = some y ∧ elems[i]? = some y := fun i hi => by
            obtain ⟨c, y, h1, h2, h3⟩ := hcell i hi
            refine ⟨c, y, ?_, by simp [cel, h1], h1, h2, h3⟩
            simp [js, List.getElem?_map, List.getElem?_range hi, cel, h1, h3]
          have hjl : js.length = len := by simp [js]
          obtain ⟨ε1, σ1, r, s1, l1, e1, hr, hrr⟩ := liftAll js (fun j hj => by
            obtain ⟨i, hi⟩ := List.mem_iff_getElem?.1 hj
            have hi' : i < len := by
              rcases Nat.lt_or_ge i js.length with q | q
              · omega
              · rw [List.getElem?_eq_none q] at hi; cases hi
            obtain ⟨c, y, q1, q2, q3, q4, q5⟩ := hjs i hi'
            rw [q1] at hi
            obtain rfl := Option.some.inj hi
            exact ih d e c y hs q4) ε σ hσ
          rw [hjl] at hr
          have hcl : ∀ i c, w.cells? base (a.add (i * P.cellsOf e)) (P.cellsOf e) = some c → c.length = P.cellsOf e ∧ ∀ k, k < P.cellsOf e → c[k]? = w.cell? ((a.add (i * P.cellsOf e)).add k) := fun i c hc => by
            unfold World.cells? at hc
            split at hc
            · have := mapM_range hc
              exact this
            · cases hc
          have hspot : a.spot = none := by
            obtain ⟨c, y, h1, _, _⟩ := hcell 0 (by omega)
            obtain ⟨q1, q2⟩ := hcl 0 c h1
            have := q2 0 he
            rw [Nat.zero_mul] at this
            simp only [Addr.add, if_true] at this
            cases hsp : a.spot with
            | none => rfl
            | some z =>
              rw [List.getElem?_eq_getElem (by omega)] at this
              have := this.symm
              unfold World.cell? at this
              split at this
              · rw [hsp] at this; simp at this
              · cases this
          have hadd : ∀ m, a.add m = ⟨a.block, a.off + m, none⟩ := fun m => by
            unfold Addr.add
            split
            · rename_i q; subst q; cases a; simp_all
            · rfl
          have hlt : a.block < w.heap.size := by
            obtain ⟨c, y, h1, _, _⟩ := hcell 0 (by omega)
            obtain ⟨q1, q2⟩ := hcl 0 c h1
            have := q2 0 he
            rw [List.getElem?_eq_getElem (by omega), hadd] at this
            have := this.symm
            unfold World.cell? at this
            split at this
            · rename_i hq
              rcases Nat.lt_or_ge a.block w.heap.size with q | q
              · exact q
              · simp only [Addr.add] at hq
                split at hq <;> (rw [Array.getElem?_eq_none q] at hq; cases hq)
            · cases this
          let all : List (List Value) := r.map (·.1)
          have hall : ∀ i y, r[i]? = some y → ∃ c z, i < len ∧ w.cells? base (a.add (i * P.cellsOf e)) (P.cellsOf e) = some c ∧ elems[i]? = some z ∧ RepL ε1 y.1 c ∧ ARd P σ1 e y.1 y.2 ∧ DR z.1 y.2 := fun i y hy => by
            have hi : i < len := by
              rcases Nat.lt_or_ge i r.length with q | q
              · omega
              · rw [List.getElem?_eq_none q] at hy; cases hy
            obtain ⟨c, z, q1, q2, q3, q4, q5⟩ := hjs i hi
            obtain ⟨p1, p2, p3⟩ := hrr i _ y q1 hy
            exact ⟨c, z, hi, q3, q5, p1, p2, p3⟩
          have hal : ∀ x ∈ all, x.length = P.cellsOf e := fun x hx => by
            obtain ⟨y, hy, rfl⟩ := List.mem_map.1 hx
            obtain ⟨i, hi⟩ := List.mem_iff_getElem?.1 hy
            obtain ⟨c, z, _, q1, _, q2, _, _⟩ := hall i y hi
            rw [← q2.length]; exact (hcl i c q1).1
          have hfl : all.flatten.length = len * P.cellsOf e := by rw [flat_len all hal]; simp [all, hr]
          let σ2 := σ1.push (.cells all.flatten .ro)
          let ε2 := ε1.upd σ1.next (some a, 0)
          have hf1 : ε1.m σ1.next = none := s1.fresh _ (Nat.le_refl _)
          have hle : ε1.Le ε2 := Env.upd_le hf1
          have hself : ε2.m σ1.next = some (some a, 0) := Env.upd_self _ _ _
          have hcat : cellsAt ε2 w a all.flatten := fun i v hi => by
            have hilt : i < len * P.cellsOf e := by
              rcases Nat.lt_or_ge i (len * P.cellsOf e) with q | q
              · exact q
              · rw [List.getElem?_eq_none (by omega)] at hi; cases hi
            have hq : i / P.cellsOf e < len := (Nat.div_lt_iff_lt_mul he).2 hilt
            have hm : i % P.cellsOf e < P.cellsOf e := Nat.mod_lt _ he
            have hdm : i / P.cellsOf e * P.cellsOf e + i % P.cellsOf e = i := Nat.div_add_mod' i _
            obtain ⟨c, z, _, q1, _, q2, _, _⟩ := hall (i / P.cellsOf e) r[i / P.cellsOf e] (List.getElem?_eq_getElem (by omega))
            obtain ⟨q3, q4⟩ := hcl _ c q1
            have hx : all[i / P.cellsOf e]? = some r[i / P.cellsOf e].1 := by simp [all, List.getElem?_map, List.getElem?_eq_getElem (show i / P.cellsOf e < r.length by omega)]
            have hp := flat_piece all hal _ _ hx
            have hv : r[i / P.cellsOf e].1[i % P.cellsOf e]? = some v := by
              rw [← hp, List.getElem?_take, if_pos hm, List.getElem?_drop, hdm]; exact hi
            obtain ⟨cv, h1, h2⟩ := q2.get hv
            refine ⟨cv, ?_, h2.mono hle⟩
            have := q4 _ hm
            rw [h1, hadd] at this
            rw [this]
            congr 1
            unfold Addr.add
            split
            · rename_i q
              rw [q, Nat.add_zero] at hdm
              rw [hdm]
            · simp only [Addr.mk.injEq, true_and, and_true]
              omega
          have hls : LS w ε2 σ2 := by
            refine ⟨⟨fun b x hb => ?_, fun b b' x x' _ _ _ _ _ hb _ ho => ?_⟩, fun b hb => ?_, s1.wf.push, fun b x hb => ?_⟩
            · rw [AHeap.get_push] at hb
              split at hb
              · rename_i q; subst q
                obtain rfl := Option.some.inj hb
                exact .inr ⟨a, 0, hself, hlt, hcat, trivial⟩
              · exact (s1.emb.ok b x hb).keep hle (Nat.le_refl _) (fun _ _ _ => rfl)
            · rw [AHeap.get_push] at hb
              split at hb
              · obtain rfl := Option.some.inj hb; cases ho
              · rw [s1.ro b x hb] at ho; cases ho
            · rw [AHeap.next_push] at hb
              show (ε1.upd σ1.next (some a, 0)).m b = none
              rw [Env.upd_other _ _ (by omega)]
              exact s1.fresh b (by omega)
            · rw [AHeap.get_push] at hb
              split at hb
              · obtain rfl := Option.some.inj hb; rfl
              · exact s1.ro b x hb
          have hbig : cap < BIG := Nat.lt_of_le_of_lt hcm (by decide)
          refine ⟨ε2, σ2, [.slice (some ⟨σ1.next, 0, none⟩) len cap], .sl (r.map (·.2)), hls, l1.trans hle, e1.trans .push, .cons ?_ .nil, .sl (n := len) (cs := all.flatten) ht ?_ (by simp [hr]) (fun i d hd => ?_), .sl (by simp [hel, hr]) (fun i a b ha hb => ?_)⟩
          · have := Rep.slice (ε := ε2) (b := σ1.next) (off := 0) (len := len) hbig hself
            have ea : a = ⟨a.block, a.off, none⟩ := by cases a; simp_all
            rw [ea]
            exact this
          · have := Sl.exact (σ := σ2) (es := P.cellsOf e) (b := σ1.next) (off := 0) (n := len) (cap := cap) (c := all.flatten) (k := .ro) hbig hlc (by rw [AHeap.next_push]; omega) (by rw [AHeap.get_push, if_pos rfl]) (by omega)
            rwa [List.drop_zero, List.take_of_length_le (by omega)] at this
          · rw [List.getElem?_map] at hd
            obtain ⟨y, hy, rfl⟩ := Option.map_eq_some_iff.1 hd
            obtain ⟨c, z, _, _, _, _, q3, _⟩ := hall i y hy
            have := flat_piece all hal i y.1 (by simp [all, List.getElem?_map, hy])
            rw [this]
            exact q3.ext .push
          · rw [List.getElem?_map] at ha hb
            obtain ⟨y, hy, rfl⟩ := Option.map_eq_some_iff.1 hb
            obtain ⟨z', hz', rfl⟩ := Option.map_eq_some_iff.1 ha
            obtain ⟨c, z, _, _, q2, _, _, q4⟩ := hall i y hy
            rw [q2] at hz'
            obtain rfl := Option.some.inj hz'
            exact q4
      · rename_i n e ht
        rw [Bool.and_eq_true, beq_iff_eq] at hs
        obtain ⟨hsz, hs⟩ := hs
        obtain ⟨xs, m, hm, rfl, hl, hn, hel⟩ := DataW.trod_array ht h
        obtain rfl : m = fuel := by omega
        intro ε σ hσ
        let js : List (TypeId × List Value × DataW H) := (List.range n).map fun i => (e, (cs.drop (i * P.cellsOf e)).take (P.cellsOf e), ((xs[i]?).map (·.1)).getD .nil)
        have hjs : ∀ i, i < n → js[i]? = some (e, (cs.drop (i * P.cellsOf e)).take (P.cellsOf e), ((xs[i]?).map (·.1)).getD .nil) := fun i hi => by simp [js, List.getElem?_map, List.getElem?_range hi]
        have hjl : js.length = n := by simp [js]
        obtain ⟨ε1, σ1, r, s1, l1, e1, hr, hrr⟩ := liftAll js (fun j hj => by
          obtain ⟨i, hi⟩ := List.mem_iff_getElem?.1 hj
          have hi' : i < n := by
            rcases Nat.lt_or_ge i js.length with q | q
            · omega
            · rw [List.getElem?_eq_none q] at hi; cases hi
          rw [hjs i hi'] at hi
          obtain rfl := Option.some.inj hi
          have := hel i hi'
          rw [List.getElem?_eq_getElem (by omega)] at this
          have := ih d e _ _ hs this
          simpa [List.getElem?_eq_getElem (show i < xs.length by omega)] using this) ε σ hσ
        rw [hjl] at hr
        have hall : ∀ i y, r[i]? = some y → i < n ∧ RepL ε1 y.1 ((cs.drop (i * P.cellsOf e)).take (P.cellsOf e)) ∧ ARd P σ1 e y.1 y.2 ∧ DR (((xs[i]?).map (·.1)).getD .nil) y.2 := fun i y hy => by
          have hi : i < n := by
            rcases Nat.lt_or_ge i r.length with q | q
            · omega
            · rw [List.getElem?_eq_none q] at hy; cases hy
          exact ⟨hi, hrr i _ y (hjs i hi) hy⟩
        have hcn : cs.length = n * P.cellsOf e := by rw [hl, hsz]
        have hal : ∀ x ∈ r.map (·.1), x.length = P.cellsOf e := fun x hx => by
          obtain ⟨y, hy, rfl⟩ := List.mem_map.1 hx
          obtain ⟨i, hi⟩ := List.mem_iff_getElem?.1 hy
          obtain ⟨q0, q1, _, _⟩ := hall i y hi
          rw [← q1.length, List.length_take, List.length_drop, hcn]
          have : i * P.cellsOf e + P.cellsOf e ≤ n * P.cellsOf e := by rw [← Nat.succ_mul]; exact Nat.mul_le_mul_right _ q0
          omega
        refine ⟨ε1, σ1, (r.map (·.1)).flatten, .agg (r.map (·.2)), s1, l1, e1, ?_, .arr ht ?_ (by simp [hr]) (fun i d hd => ?_), .agg (by simp [hr, hn]) (fun i a b ha hb => ?_)⟩
        · refine repL_flat n _ cs (by simp [hr]) hcn fun i x hx => ?_
          rw [List.getElem?_map] at hx
          obtain ⟨y, hy, rfl⟩ := Option.map_eq_some_iff.1 hx
          exact (hall i y hy).2.1
        · rw [flat_len _ hal]; simp [hr, hsz]
        · rw [List.getElem?_map] at hd
          obtain ⟨y, hy, rfl⟩ := Option.map_eq_some_iff.1 hd
          rw [flat_piece _ hal i y.1 (by simp [List.getElem?_map, hy])]
          exact (hall i y hy).2.2.1
        · rw [List.getElem?_map] at ha hb
          obtain ⟨y, hy, rfl⟩ := Option.map_eq_some_iff.1 hb
          obtain ⟨z, hz, rfl⟩ := Option.map_eq_some_iff.1 ha
          have := (hall i y hy).2.2.2
          rw [hz] at this
          exact this
      · rename_i fs ht
        rw [Bool.and_eq_true] at hs
        obtain ⟨ho, hs⟩ := hs
        obtain ⟨xs, m, hm, rfl, hl, hn, hel⟩ := DataW.trod_struct ht h
        obtain rfl : m = fuel := by omega
        intro ε σ hσ
        let js : List (TypeId × List Value × DataW H) := (List.range fs.size).map fun i => (((fs[i]?).map (·.type)).getD 0, (((fs[i]?).map fun f => (cs.drop f.offset).take (P.cellsOf f.type)).getD []), ((xs[i]?).map (·.1)).getD .nil)
        have hjs : ∀ (i : Nat) (f : Field), fs[i]? = some f → i < fs.size ∧ js[i]? = some (f.type, (cs.drop f.offset).take (P.cellsOf f.type), ((xs[i]?).map (·.1)).getD .nil) := fun i f hf => by
          have hi : i < fs.size := by
            rcases Nat.lt_or_ge i fs.size with q | q
            · exact q
            · rw [Array.getElem?_eq_none q] at hf; cases hf
          refine ⟨hi, ?_⟩
          simp only [js, List.getElem?_map, List.getElem?_range hi, Option.map_some, hf, Option.getD_some]
        have hjl : js.length = fs.size := by simp [js]
        obtain ⟨ε1, σ1, r, s1, l1, e1, hr, hrr⟩ := liftAll js (fun j hj => by
          obtain ⟨i, hi⟩ := List.mem_iff_getElem?.1 hj
          have hi' : i < fs.size := by
            rcases Nat.lt_or_ge i js.length with q | q
            · omega
            · rw [List.getElem?_eq_none q] at hi; cases hi
          have hf : fs[i]? = some fs[i] := Array.getElem?_eq_getElem hi'
          rw [(hjs i _ hf).2] at hi
          obtain rfl := Option.some.inj hi
          have := hel i _ hf
          rw [List.getElem?_eq_getElem (by omega)] at this
          have hst : simpleT P d fs[i].type = true := by
            have := List.all_eq_true.1 hs fs[i] (by simp)
            exact this
          have := ih d _ _ _ hst this
          simpa [List.getElem?_eq_getElem (show i < xs.length by omega)] using this) ε σ hσ
        rw [hjl] at hr
        have hall : ∀ (i : Nat) (f : Field) (y : List Value × Dt), fs[i]? = some f → r[i]? = some y → RepL ε1 y.1 ((cs.drop f.offset).take (P.cellsOf f.type)) ∧ ARd P σ1 f.type y.1 y.2 ∧ DR (((xs[i]?).map (·.1)).getD .nil) y.2 := fun i f y hf hy => hrr i _ y (hjs i f hf).2 hy
        have hlen : ∀ (i : Nat) (f : Field) (y : List Value × Dt), fs[i]? = some f → r[i]? = some y → y.1.length = P.cellsOf f.type := fun i f y hf hy => by
          have h1 := (hall i f y hf hy).1.length
          have hi : i < fs.size := (hjs i f hf).1
          have h2 := hel i f hf
          rw [List.getElem?_eq_getElem (by omega)] at h2
          have hst : simpleT P d f.type = true := List.all_eq_true.1 hs f (by
            have := Array.mem_of_getElem? hf
            simpa using this)
          rw [← h1]; exact trod_len hst h2
        obtain ⟨q1, q2, q3⟩ := offs_rep (P := P) (ε := ε1) fs.toList 0 (P.cellsOf t) (r.map (·.1)) cs ho (by simp [hr]) hl (Nat.zero_le _) fun i f x hf hx => by
          rw [List.getElem?_map] at hx
          obtain ⟨y, hy, rfl⟩ := Option.map_eq_some_iff.1 hx
          have hf' : fs[i]? = some f := by rw [← Array.getElem?_toList]; exact hf
          exact ⟨(hall i f y hf' hy).1, hlen i f y hf' hy⟩
        refine ⟨ε1, σ1, (r.map (·.1)).flatten, .agg (r.map (·.2)), s1, l1, e1, by simpa using q1, .str ht (by simpa using q2) (by simp [hr]) (fun i f d hf hd => ?_), .agg (by simp [hr, hn]) (fun i a b ha hb => ?_)⟩
        · rw [List.getElem?_map] at hd
          obtain ⟨y, hy, rfl⟩ := Option.map_eq_some_iff.1 hd
          have := (q3 i f y.1 (by rw [Array.getElem?_toList]; exact hf) (by simp [List.getElem?_map, hy])).2
          rw [Nat.sub_zero] at this
          rw [this]
          exact (hall i f y hf hy).2.1
        · rw [List.getElem?_map] at ha hb
          obtain ⟨y, hy, rfl⟩ := Option.map_eq_some_iff.1 hb
          obtain ⟨z, hz, rfl⟩ := Option.map_eq_some_iff.1 ha
          have hi : i < fs.size := by
            rcases Nat.lt_or_ge i r.length with q | q
            · omega
            · rw [List.getElem?_eq_none q] at hy; cases hy
          have := (hall i fs[i] y (Array.getElem?_eq_getElem hi) hy).2.2
          rw [hz] at this
          exact this
      · cases hs
end Go.Eng
/- The engine with open data: a law's call, out of an abstract heap of what is only read. -/
namespace Go.Eng
open Go
variable {P : Program} {G : Nat}

/-- A call out of what is only read: what it says, and that it leaves what was there. -/
theorem call_ro {w : World} {ε : Env} {σ σ' : AHeap} (hs : LS w ε σ) (hg : GOk ε G) {f : FuncId} {args cargs : List Value} {v : Value} (ha : RepL ε args cargs) (hv : closedD 8 v = true) (h : CallOk P G f args σ v σ') :
    Calls P f ⟨cargs⟩ w fun
    | .returned cv, w' => cv = v ∧ Quiet w w'
    | _, _ => False := by
  refine (h.2 ε cargs w hs.emb ha hg (fun b h1 _ => hs.fresh b h1)).mono fun e w' hR => ?_
  cases e with
  | returned cv =>
    obtain ⟨ε', h1, h2⟩ := hR
    refine ⟨closed_same hv h1, h2.os, h2.tape, h2.output, h2.size, fun k hk => h2.frame k hk ?_⟩
    rintro ⟨b, x, a, n, hx, ho, _, _⟩
    rw [hs.ro b x hx] at ho
    cases ho
  | panicked c => exact hR.elim
  | outgrown => exact hR.elim

/-- the package variables that a row lists, as what is only read -/
theorem base_ls {need : List (Nat × List Value)} {next : Nat} (hn : G ≤ next) (hneed : needOk G need = true) {w : World} (hw : ∀ x ∈ need, ∀ i u, x.2[i]? = some u → w.cell? ⟨x.1, i, none⟩ = some u) (hsz : ∀ x ∈ need, x.1 < w.heap.size)
    (opq : Nat → Value) (one : ∀ i, oneV (opq i) = true) : LS w (baseEnv G opq one) (roH next need) ∧ GOk (baseEnv G opq one) G := by
  have hneed' : ∀ x ∈ need, x.1 < G ∧ x.2.all (idV G 8) = true := fun x hx => by
    have := List.all_eq_true.1 hneed x hx
    rw [Bool.and_eq_true, Nat.blt_eq] at this
    exact this
  have hget := roH_get next need
  have hm : ∀ b, b < G → (baseEnv G opq one).m b = some (some ⟨b, 0, none⟩, 0) := fun b hb => by simp [baseEnv, hb]
  have hgo : GOk (baseEnv G opq one) G := fun g hg => ⟨0, hm g hg⟩
  refine ⟨⟨⟨fun b x hx => ?_, fun b b' x x' a a' n n' _ hx _ ho => ?_⟩, fun b hb => ?_, fun b hb => ?_, fun b x hx => ?_⟩, hgo⟩
  · obtain ⟨c, h1, rfl⟩ := hget b x hx
    obtain ⟨h2, h3⟩ := hneed' _ h1
    refine .inr ⟨⟨b, 0, none⟩, 0, hm b h2, hsz _ h1, fun i u hi => ⟨u, ?_, ?_⟩, trivial⟩
    · have := hw _ h1 i u hi
      simpa using this
    · exact rep_idV (G := G) hgo 8 u (List.all_eq_true.1 h3 u (List.mem_of_getElem? hi))
  · obtain ⟨c, h1, rfl⟩ := hget b x hx
    cases ho
  · rw [roH_next] at hb
    have : ¬ b < G := by omega
    simp [baseEnv, this]
  · rw [roH_next] at hb
    cases hx : (roH next need).get b with
    | none => rfl
    | some x =>
      obtain ⟨c, h1, rfl⟩ := hget b x hx
      have := (hneed' _ h1).1
      omega
  · obtain ⟨c, h1, rfl⟩ := hget b x hx
    rfl
theorem GOk.le {ε ε' : Env} (h : GOk ε G) (hl : ε.Le ε') : GOk ε' G := h.mono hl

/-- the listed cells are in a heap -/
def Has (σ : AHeap) (need : List (Nat × List Value)) : Prop := ∀ x ∈ need, ∃ k, σ.get x.1 = some (.cells x.2 k)
theorem holdsB_of {σ : AHeap} : ∀ {need : List (Nat × List Value)}, Has σ need → (need.all fun x => vEq.eqL (vEq 3) x.2 x.2) = true → holdsB σ need = true
  | [], _, _ => rfl
  | y :: l, h, hv => by
    rw [List.all_cons, Bool.and_eq_true] at hv
    obtain ⟨k, hk⟩ := h y (.head _)
    show (match σ.get y.1 with
      | some (.cells c _) => ifb (vEq.eqL (vEq 3) c y.2) (holdsB σ l) false
      | _ => false) = true
    rw [hk]
    show ifb (vEq.eqL (vEq 3) y.2 y.2) _ _ = true
    rw [hv.1]
    exact holdsB_of (fun x hx => h x (.tail _ hx)) hv.2
theorem Has.ext {σ σ' : AHeap} {need : List (Nat × List Value)} (h : Has σ need) (e : Ext none σ σ') (hn : ∀ x ∈ need, x.1 < σ.next) : Has σ' need := fun x hx => by
  obtain ⟨k, hk⟩ := h x hx
  exact ⟨k, by rw [e.get _ (hn x hx) (by simp)]; exact hk⟩

/-- bytes, off a reading -/
theorem bytes_of_ard {σ : AHeap} {t e : TypeId} {v : Value} {d : Dt} (ht : P.underlying t = some (.slice e)) (he : P.underlying e = some (.int .u8)) (hc : P.cellsOf e = 1) (h : ARd P σ t [v] d) :
    ∃ l : List Nat, Sl σ 1 v l.length (bytesV l) ∧ (∀ x ∈ l, x < 256) ∧ ∃ ds, d = .sl ds ∧ ds.length = l.length := by
  cases h with
  | int h' _ => rw [ht] at h'; cases h'
  | bool h' => rw [ht] at h'; cases h'
  | arr h' _ _ _ => rw [ht] at h'; cases h'
  | str h' _ _ _ => rw [ht] at h'; cases h'
  | sl h' hs hd hh =>
    rename_i e' n cs ds
    rw [ht] at h'
    cases h'
    rw [hc] at hs hh
    have hl := hs.len
    rw [Nat.mul_one] at hl
    have key : ∀ i, i < n → ∃ z : Nat, z < 256 ∧ cs[i]? = some (.int .u8 z) := fun i hi => by
      have := hh i ds[i] (List.getElem?_eq_getElem (by omega))
      rw [Nat.mul_one] at this
      have hcs : ∀ {x : List Value} {d : Dt}, x = (cs.drop i).take 1 → ARd P σ e x d → ∃ z : Nat, z < 256 ∧ cs[i]? = some (.int .u8 z) := by
        intro x d hx ha
        cases ha with
        | int h' hz =>
          rename_i k z
          rw [he] at h'; cases h'
          have h0 := congrArg (·[0]?) hx
          simp only [List.getElem?_cons_zero, List.getElem?_take, List.getElem?_drop, Nat.add_zero, Nat.zero_lt_one, if_true] at h0
          simp [IntKind.min, IntKind.max, IntKind.signed, IntKind.bits] at hz
          refine ⟨z.toNat, by omega, ?_⟩
          rw [← h0]
          congr 2
          omega
        | bool h' => rw [he] at h'; cases h'
        | arr h' _ _ _ => rw [he] at h'; cases h'
        | str h' _ _ _ => rw [he] at h'; cases h'
        | sl h' _ _ _ => rw [he] at h'; cases h'
      exact hcs rfl this
    have lst : ∀ (cs : List Value), (∀ i, i < cs.length → ∃ z : Nat, z < 256 ∧ cs[i]? = some (.int .u8 z)) → ∃ l : List Nat, cs = bytesV l ∧ ∀ x ∈ l, x < 256 := by
      intro cs
      induction cs with
      | nil => exact fun _ => ⟨[], rfl, fun x hx => by cases hx⟩
      | cons c cs ih =>
        intro h
        obtain ⟨z, h1, h2⟩ := h 0 (by simp)
        obtain ⟨l, h3, h4⟩ := ih fun i hi => by
          obtain ⟨z, p1, p2⟩ := h (i + 1) (by simpa using hi)
          exact ⟨z, p1, by simpa using p2⟩
        simp only [List.getElem?_cons_zero, Option.some.injEq] at h2
        refine ⟨z :: l, by rw [h2, h3]; rfl, fun x hx => ?_⟩
        rcases List.mem_cons.1 hx with rfl | hx
        · exact h1
        · exact h4 x hx
    obtain ⟨l, rfl, h2⟩ := lst cs fun i hi => key i (by omega)
    rw [bytesV_length] at hl
    exact ⟨l, by rw [hl]; exact hs, h2, ds, rfl, by omega⟩
end Go.Eng
