/- The engine, part A: finite maps, abstract heaps, when an abstract value stands for one of the model, when an abstract heap lies in a world. -/
import Derived.Tactics
import Derived.Orders
import Derived.Scope
import Derived.Laws.IdiomCopy
import Derived.Laws.AppendOwn
namespace Go.Eng

/- a value of one cell -/
def oneV : Value → Bool
  | .agg _ | .tuple _ => false
  | _ => true

/- finite maps over Nat -/
inductive Tr (α : Type) where
  | nil
  | node (v : Option α) (l r : Tr α)

inductive Path where
  | E
  | L (p : Path)
  | R (p : Path)

/-- where a number stands in a map -/
noncomputable def pth (f : Nat) : Nat → Path :=
  Nat.rec (fun _ => .E) (fun _ ih n => Nat.rec .E (fun m _ => Bool.rec (.R (ih (Nat.div m 2))) (.L (ih (Nat.div m 2))) (Nat.beq (Nat.mod m 2) 0)) n) f

namespace Tr
variable {α : Type}
noncomputable def get (p : Path) : Tr α → Option α :=
  Path.rec (fun t => Tr.rec none (fun v _ _ _ _ => v) t) (fun _ ih t => Tr.rec none (fun _ l _ _ _ => ih l) t) (fun _ ih t => Tr.rec none (fun _ _ r _ _ => ih r) t) p

noncomputable def set (p : Path) (v : Option α) : Tr α → Tr α :=
  Path.rec (fun t => Tr.rec (.node v .nil .nil) (fun _ l r _ _ => .node v l r) t)
    (fun _ ih t => Tr.rec (.node none (ih .nil) .nil) (fun u l r _ _ => .node u (ih l) r) t)
    (fun _ ih t => Tr.rec (.node none .nil (ih .nil)) (fun u l r _ _ => .node u l (ih r)) t) p

theorem get_nil (p : Path) : get p (.nil : Tr α) = none := by cases p <;> rfl

theorem get_set_same (v : Option α) : ∀ (p : Path) (t : Tr α), get p (set p v t) = v
  | .E, .nil => rfl
  | .E, .node _ _ _ => rfl
  | .L p, .nil => get_set_same v p .nil
  | .L p, .node _ l _ => get_set_same v p l
  | .R p, .nil => get_set_same v p .nil
  | .R p, .node _ _ r => get_set_same v p r

theorem get_set_other (v : Option α) : ∀ (p q : Path) (t : Tr α), p ≠ q → get p (set q v t) = get p t
  | .E, .E, _, h => absurd rfl h
  | .E, .L q, .nil, _ => rfl
  | .E, .L q, .node _ _ _, _ => rfl
  | .E, .R q, .nil, _ => rfl
  | .E, .R q, .node _ _ _, _ => rfl
  | .L p, .E, .nil, _ => by show get p .nil = none; exact get_nil p
  | .L p, .E, .node _ _ _, _ => rfl
  | .L p, .R q, .nil, _ => by show get p .nil = none; exact get_nil p
  | .L p, .R q, .node _ _ _, _ => rfl
  | .R p, .E, .nil, _ => by show get p .nil = none; exact get_nil p
  | .R p, .E, .node _ _ _, _ => rfl
  | .R p, .L q, .nil, _ => by show get p .nil = none; exact get_nil p
  | .R p, .L q, .node _ _ _, _ => rfl
  | .L p, .L q, .nil, h => by
    show get p (set q v .nil) = none
    rw [get_set_other v p q .nil (fun e => h (by rw [e])), get_nil]
  | .L p, .L q, .node _ l _, h => get_set_other v p q l (fun e => h (by rw [e]))
  | .R p, .R q, .nil, h => by
    show get p (set q v .nil) = none
    rw [get_set_other v p q .nil (fun e => h (by rw [e])), get_nil]
  | .R p, .R q, .node _ _ r, h => get_set_other v p q r (fun e => h (by rw [e]))
end Tr

theorem pth_succ (f n : Nat) : pth (f + 1) (n + 1) = Bool.rec (.R (pth f (n / 2))) (.L (pth f (n / 2))) (Nat.beq (n % 2) 0) := rfl

theorem pth_inj (f : Nat) : ∀ (n m : Nat), n < 2 ^ f → m < 2 ^ f → pth f n = pth f m → n = m := by
  induction f with
  | zero => intro n m hn hm _; simp at hn hm; omega
  | succ f ih =>
    intro n m hn hm h
    have e : 2 ^ (f + 1) = 2 * 2 ^ f := by rw [Nat.pow_succ]; omega
    cases n with
    | zero =>
      cases m with
      | zero => rfl
      | succ m =>
        rw [pth_succ] at h
        cases hb : Nat.beq (m % 2) 0 <;> rw [hb] at h <;> cases h
    | succ n =>
      cases m with
      | zero =>
        rw [pth_succ] at h
        cases hb : Nat.beq (n % 2) 0 <;> rw [hb] at h <;> cases h
      | succ m =>
        rw [pth_succ, pth_succ] at h
        cases h1 : Nat.beq (n % 2) 0 <;> cases h2 : Nat.beq (m % 2) 0 <;> rw [h1, h2] at h <;> simp only [Path.R.injEq, Path.L.injEq, reduceCtorEq] at h
        · have := ih _ _ (by omega) (by omega) h
          have a1 : n % 2 ≠ 0 := fun x => by rw [x] at h1; simp at h1
          have a2 : m % 2 ≠ 0 := fun x => by rw [x] at h2; simp at h2
          omega
        · have := ih _ _ (by omega) (by omega) h
          have a1 : n % 2 = 0 := Nat.eq_of_beq_eq_true h1
          have a2 : m % 2 = 0 := Nat.eq_of_beq_eq_true h2
          omega

/- small words whose reduction is short -/
noncomputable def ifb {α : Type} (c : Bool) (a b : α) : α := Bool.rec b a c
theorem ifb_true {α : Type} (a b : α) : ifb true a b = a := rfl
theorem ifb_false {α : Type} (a b : α) : ifb false a b = b := rfl
noncomputable def ob {α β : Type} (x : Option α) (f : α → Option β) : Option β := Option.rec none f x
theorem ob_some {α β : Type} (a : α) (f : α → Option β) : ob (some a) f = f a := rfl
theorem ob_none {α β : Type} (f : α → Option β) : ob none f = none := rfl
theorem ifb_eq_some {α : Type} {c : Bool} {a : Option α} {r : α} (h : ifb c a none = some r) : c = true ∧ a = some r := by
  cases c
  · cases h
  · exact ⟨rfl, h⟩
theorem ob_eq_some {α β : Type} {x : Option α} {f : α → Option β} {r : β} (h : ob x f = some r) : ∃ a, x = some a ∧ f a = some r := by
  cases x with
  | none => cases h
  | some a => exact ⟨a, rfl, h⟩

/- abstract blocks and heaps -/
inductive AKind where
  | ro | own
  | grow (es : Nat)

inductive ABlk where
  | cells (c : List Value) (k : AKind)
  | map (es : List (Value × Value × Nat)) (clock : Nat)

def ABlk.isOwn : ABlk → Bool
  | .cells _ .ro => false
  | _ => true

abbrev AMap := Nat → Option ABlk
def AMap.set (g : AMap) (b : Nat) (v : Option ABlk) : AMap := fun x => if x = b then v else g x

def lim : Nat := 1099511627776
structure AHeap where
  t : Tr ABlk
  next : Nat

/-- where a number stands, whatever it is -/
noncomputable def pthN (n : Nat) : Path := pth n n
theorem pth_stab : ∀ (f n : Nat), n < 2 ^ f → pth (f + 1) n = pth f n := by
  intro f
  induction f with
  | zero => intro n h; have : n = 0 := by simpa using h
            subst this; rfl
  | succ f ih =>
    intro n h
    cases n with
    | zero => rfl
    | succ n =>
      have e : 2 ^ (f + 1) = 2 * 2 ^ f := by rw [Nat.pow_succ]; omega
      rw [pth_succ, pth_succ, ih (n / 2) (by omega)]
theorem pth_more (n : Nat) : ∀ (d f : Nat), n < 2 ^ f → pth (f + d) n = pth f n
  | 0, _, _ => rfl
  | d + 1, f, h => by
    rw [show f + (d + 1) = f + d + 1 by omega, pth_stab (f + d) n (Nat.lt_of_lt_of_le h (Nat.pow_le_pow_right (by decide) (by omega))), pth_more n d f h]
theorem pthN_inj {n m : Nat} (h : pthN n = pthN m) : n = m := by
  have a := pth_more n m n Nat.lt_two_pow_self
  have b := pth_more m n m Nat.lt_two_pow_self
  rw [Nat.add_comm m n] at b
  refine pth_inj (n + m) n m (Nat.lt_of_lt_of_le Nat.lt_two_pow_self (Nat.pow_le_pow_right (by decide) (by omega))) (Nat.lt_of_lt_of_le Nat.lt_two_pow_self (Nat.pow_le_pow_right (by decide) (by omega))) ?_
  rw [a, b]; exact h
noncomputable def AHeap.get (σ : AHeap) (b : Nat) : Option ABlk := Tr.get (pthN b) σ.t
noncomputable def AHeap.set (σ : AHeap) (b : Nat) (v : Option ABlk) : AHeap := { t := Tr.set (pthN b) v σ.t, next := σ.next }
theorem AHeap.get_set (σ : AHeap) {b : Nat} (v : Option ABlk) : (σ.set b v).get = AMap.set σ.get b v := by
  funext x
  simp only [AMap.set]
  by_cases e : x = b
  · subst e; rw [if_pos rfl]; exact Tr.get_set_same _ _ _
  · rw [if_neg e]
    exact Tr.get_set_other _ _ _ _ (fun h => e (pthN_inj h))

/- what abstract values stand for -/
structure Env where
  m : Nat → Option (Option Addr × Nat)
  opq : Nat → Value
  one : ∀ i, oneV (opq i) = true

def BIG : Nat := 18446744073709551616

mutual
inductive Rep (ε : Env) : Value → Value → Prop
  | int (k : IntKind) (n : Int) : Rep ε (.int k n) (.int k n)
  | bool (b : Bool) : Rep ε (.bool b) (.bool b)
  | string (s : ByteArray) : Rep ε (.string s) (.string s)
  | ptrNil : Rep ε (.pointer none) (.pointer none)
  | ptr {b off : Nat} {a : Addr} {c : Nat} (h : ε.m b = some (some a, c)) : Rep ε (.pointer (some ⟨b, off, none⟩)) (.pointer (some ⟨a.block, a.off + off, none⟩))
  | sliceNil : Rep ε (.slice none 0 0) (.slice none 0 0)
  | slice {b off len cap : Nat} {a : Addr} {c : Nat} (hc : cap < BIG) (h : ε.m b = some (some a, c)) : Rep ε (.slice (some ⟨b, off, none⟩) len cap) (.slice (some ⟨a.block, a.off + off, none⟩) len cap)
  | gslice {b off len k : Nat} {a : Addr} {c : Nat} (h : ε.m b = some (some a, c)) (hk : k ≤ c) : Rep ε (.slice (some ⟨b, off, none⟩) len (BIG + k)) (.slice (some ⟨a.block, a.off + off, none⟩) len (c - k))
  | gsliceV {b off : Nat} (h : ε.m b = some (none, 0)) : Rep ε (.slice (some ⟨b, off, none⟩) 0 (BIG + 0)) (.slice none 0 0)
  | empty (a : Option Addr) (c : Nat) : Rep ε (.slice (some ⟨0, 0, some 0⟩) 0 0) (.slice a 0 c)
  | mapNil : Rep ε (.map none) (.map none)
  | map {b : Nat} {a : Addr} {c : Nat} (h : ε.m b = some (some a, c)) : Rep ε (.map (some b)) (.map (some a.block))
  | opq (i : Nat) : Rep ε (.chan (some i)) (ε.opq i)
  | func {fn : Fn} {f f' c c' : List Value} (h1 : RepL ε f f') (h2 : RepL ε c c') : Rep ε (.func fn ⟨f⟩ ⟨c⟩) (.func fn ⟨f'⟩ ⟨c'⟩)
  | nilFunc : Rep ε .nilFunc .nilFunc
  | nilIface : Rep ε .nilIface .nilIface
  | iface {t : TypeId} {v v' : Value} (h : Rep ε v v') : Rep ε (.iface t v) (.iface t v')
  | agg {c c' : List Value} (h : RepL ε c c') : Rep ε (.agg ⟨c⟩) (.agg ⟨c'⟩)
  | tuple {c c' : List Value} (h : RepL ε c c') : Rep ε (.tuple ⟨c⟩) (.tuple ⟨c'⟩)
inductive RepL (ε : Env) : List Value → List Value → Prop
  | nil : RepL ε [] []
  | cons {v v' : Value} {l l' : List Value} (h : Rep ε v v') (t : RepL ε l l') : RepL ε (v :: l) (v' :: l')
end

structure Env.Le (ε ε' : Env) : Prop where
  m : ∀ b x, ε.m b = some x → ε'.m b = some x
  opq : ε'.opq = ε.opq

theorem Env.Le.refl (ε : Env) : ε.Le ε := ⟨fun _ _ h => h, rfl⟩
theorem Env.Le.trans {a b c : Env} (h : a.Le b) (k : b.Le c) : a.Le c := ⟨fun x y hx => k.m x y (h.m x y hx), k.opq.trans h.opq⟩

mutual
theorem Rep.mono {ε ε' : Env} (hl : ε.Le ε') : ∀ {v cv : Value}, Rep ε v cv → Rep ε' v cv
  | _, _, .int k n => .int k n
  | _, _, .bool b => .bool b
  | _, _, .string s => .string s
  | _, _, .ptrNil => .ptrNil
  | _, _, .ptr h => .ptr (hl.m _ _ h)
  | _, _, .sliceNil => .sliceNil
  | _, _, .slice hc h => .slice hc (hl.m _ _ h)
  | _, _, .gslice h hk => .gslice (hl.m _ _ h) hk
  | _, _, .gsliceV h => .gsliceV (hl.m _ _ h)
  | _, _, .empty a c => .empty a c
  | _, _, .mapNil => .mapNil
  | _, _, .map h => .map (hl.m _ _ h)
  | _, _, .opq i => by have := Rep.opq (ε := ε') i; rw [hl.opq] at this; exact this
  | _, _, .func h1 h2 => .func (RepL.mono hl h1) (RepL.mono hl h2)
  | _, _, .nilFunc => .nilFunc
  | _, _, .nilIface => .nilIface
  | _, _, .iface h => .iface (Rep.mono hl h)
  | _, _, .agg h => .agg (RepL.mono hl h)
  | _, _, .tuple h => .tuple (RepL.mono hl h)
theorem RepL.mono {ε ε' : Env} (hl : ε.Le ε') : ∀ {v cv : List Value}, RepL ε v cv → RepL ε' v cv
  | _, _, .nil => .nil
  | _, _, .cons h t => .cons (Rep.mono hl h) (RepL.mono hl t)
end

theorem RepL.length {ε : Env} : ∀ {l l' : List Value}, RepL ε l l' → l'.length = l.length
  | _, _, .nil => rfl
  | _, _, .cons _ t => by simp [RepL.length t]

theorem RepL.get {ε : Env} : ∀ {l l' : List Value}, RepL ε l l' → ∀ {i : Nat} {v : Value}, l[i]? = some v → ∃ cv, l'[i]? = some cv ∧ Rep ε v cv
  | _, _, .nil, i, v, h => by simp at h
  | _, _, .cons h t, 0, v, hi => by simp at hi; subst hi; exact ⟨_, by simp, h⟩
  | _, _, .cons h t, i + 1, v, hi => by
    simp at hi
    obtain ⟨cv, h1, h2⟩ := RepL.get t hi
    exact ⟨cv, by simpa using h1, h2⟩

theorem RepL.append {ε : Env} : ∀ {a a' b b' : List Value}, RepL ε a a' → RepL ε b b' → RepL ε (a ++ b) (a' ++ b')
  | _, _, _, _, .nil, h => h
  | _, _, _, _, .cons h t, k => .cons h (RepL.append t k)

theorem RepL.drop {ε : Env} : ∀ {a a' : List Value} (n : Nat), RepL ε a a' → RepL ε (a.drop n) (a'.drop n)
  | _, _, 0, h => by simpa using h
  | _, _, n + 1, .nil => by simp; exact .nil
  | _, _, n + 1, .cons h t => by simpa using RepL.drop n t

theorem RepL.take {ε : Env} : ∀ {a a' : List Value} (n : Nat), RepL ε a a' → RepL ε (a.take n) (a'.take n)
  | _, _, 0, h => by simp; exact .nil
  | _, _, n + 1, .nil => by simp; exact .nil
  | _, _, n + 1, .cons h t => by simpa using RepL.cons h (RepL.take n t)

theorem RepL.set {ε : Env} {v v' : Value} (hv : Rep ε v v') : ∀ {a a' : List Value} (n : Nat), RepL ε a a' → RepL ε (a.set n v) (a'.set n v')
  | _, _, n, .nil => by simp; exact .nil
  | _, _, 0, .cons h t => by simpa using RepL.cons hv t
  | _, _, n + 1, .cons h t => by simpa using RepL.cons h (RepL.set hv n t)

theorem Rep.oneCell {ε : Env} {v cv : Value} (h : Rep ε v cv) : oneV cv = oneV v := by
  cases h <;> first | rfl | exact ε.one _

theorem Rep.cells {ε : Env} {v cv : Value} (h : Rep ε v cv) (hv : v.cells.toList.all oneV = true) : RepL ε v.cells.toList cv.cells.toList := by
  have one : ∀ {v cv : Value}, Rep ε v cv → oneV v = true → (∀ c, v ≠ .agg c) → RepL ε v.cells.toList cv.cells.toList := by
    intro v cv h h1 h2
    have e1 : v.cells = #[v] := by cases v <;> simp_all [Value.cells, oneV]
    have h1' : oneV cv = true := by rw [h.oneCell]; exact h1
    have e2 : cv.cells = #[cv] := by cases cv <;> simp_all [Value.cells, oneV]
    rw [e1, e2]
    exact .cons h .nil
  cases h with
  | agg h => simpa [Value.cells] using h
  | tuple h => simp [Value.cells, oneV] at hv
  | opq i => exact one (.opq i) rfl (fun _ h => by cases h)
  | iface h => exact one (.iface h) rfl (fun _ h => by cases h)
  | func h1 h2 => exact one (.func h1 h2) rfl (fun _ h => by cases h)
  | int k n => exact one (.int k n) rfl (fun _ h => by cases h)
  | bool b => exact one (.bool b) rfl (fun _ h => by cases h)
  | string s => exact one (.string s) rfl (fun _ h => by cases h)
  | ptrNil => exact one .ptrNil rfl (fun _ h => by cases h)
  | ptr h => exact one (.ptr h) rfl (fun _ h => by cases h)
  | sliceNil => exact one .sliceNil rfl (fun _ h => by cases h)
  | slice hc h => exact one (.slice hc h) rfl (fun _ h => by cases h)
  | gslice h hk => exact one (.gslice h hk) rfl (fun _ h => by cases h)
  | gsliceV h => exact one (.gsliceV h) rfl (fun _ h => by cases h)
  | empty a c => exact one (.empty a c) rfl (fun _ h => by cases h)
  | mapNil => exact one .mapNil rfl (fun _ h => by cases h)
  | map h => exact one (.map h) rfl (fun _ h => by cases h)
  | nilFunc => exact one .nilFunc rfl (fun _ h => by cases h)
  | nilIface => exact one .nilIface rfl (fun _ h => by cases h)

/- values without addresses -/
def closedD : Nat → Value → Bool
  | 0, _ => false
  | n + 1, v =>
    match v with
    | .int _ _ | .bool _ | .string _ | .pointer none | .map none | .nilFunc | .nilIface => true
    | .slice none 0 0 => true
    | .iface _ x => closedD n x
    | .agg cs => cs.toList.all (closedD n)
    | .tuple cs => cs.toList.all (closedD n)
    | .func _ f c => f.toList.all (closedD n) && c.toList.all (closedD n)
    | _ => false

theorem closedD_rep {ε : Env} : ∀ (n : Nat) (v cv : Value), closedD n v = true → Rep ε v cv → cv = v
  | 0, _, _, h, _ => by simp [closedD] at h
  | n + 1, v, cv, h, hr => by
    have L : ∀ {l l' : List Value}, RepL ε l l' → l.all (closedD n) = true → l' = l := by
      intro l
      induction l with
      | nil => intro l' hl _; cases hl; rfl
      | cons x l ih =>
        intro l' hl ha
        cases hl with
        | cons h1 h2 =>
          simp only [List.all_cons, Bool.and_eq_true] at ha
          rw [closedD_rep n _ _ ha.1 h1, ih h2 ha.2]
    cases hr <;> simp only [closedD] at h <;> first | rfl | skip
    all_goals try (simp at h; done)
    case func h1 h2 =>
      simp only [Bool.and_eq_true] at h
      rw [L h1 h.1, L h2 h.2]
    case iface h1 => rw [closedD_rep n _ _ h h1]
    case agg h1 => rw [L h1 h]
    case tuple h1 => rw [L h1 h]

theorem rep_closedD {ε : Env} : ∀ (n : Nat) (v : Value), closedD n v = true → Rep ε v v
  | 0, _, h => by simp [closedD] at h
  | n + 1, v, h => by
    have L : ∀ {l : List Value}, l.all (closedD n) = true → RepL ε l l := by
      intro l
      induction l with
      | nil => intro _; exact .nil
      | cons x l ih =>
        intro ha
        simp only [List.all_cons, Bool.and_eq_true] at ha
        exact .cons (rep_closedD n _ ha.1) (ih ha.2)
    unfold closedD at h
    split at h
    · exact .int _ _
    · exact .bool _
    · exact .string _
    · exact .ptrNil
    · exact .mapNil
    · exact .nilFunc
    · exact .nilIface
    · exact .sliceNil
    · exact .iface (rep_closedD n _ h)
    · rename_i cs; obtain ⟨cs⟩ := cs; exact .agg (L h)
    · rename_i cs; obtain ⟨cs⟩ := cs; exact .tuple (L h)
    · rename_i f c; obtain ⟨f⟩ := f; obtain ⟨c⟩ := c
      simp only [Bool.and_eq_true] at h
      exact .func (L h.1) (L h.2)
    · simp at h
end Go.Eng
