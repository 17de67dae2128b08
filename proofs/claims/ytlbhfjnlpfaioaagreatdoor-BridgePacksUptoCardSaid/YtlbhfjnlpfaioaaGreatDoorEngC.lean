/- The engine, part C: the abstract operations. -/
import Derived.Test.YtlbhfjnlpfaioaaGreatDoorEngB
namespace Go.Eng
open Go

/- lists -/
noncomputable def nth {α : Type} (n : Nat) : List α → Option α :=
  Nat.rec (fun l => List.rec none (fun x _ _ => some x) l) (fun _ ih l => List.rec none (fun _ t _ => ih t) l) n
theorem nth_eq {α : Type} : ∀ (n : Nat) (l : List α), nth n l = l[n]?
  | 0, [] => rfl
  | 0, _ :: _ => rfl
  | _ + 1, [] => rfl
  | n + 1, _ :: l => by
    show nth n l = _
    rw [nth_eq n l]; simp
noncomputable def dropL {α : Type} (n : Nat) : List α → List α :=
  Nat.rec (fun l => l) (fun _ ih l => List.rec [] (fun _ t _ => ih t) l) n
theorem dropL_eq {α : Type} : ∀ (n : Nat) (l : List α), dropL n l = l.drop n
  | 0, _ => rfl
  | _ + 1, [] => rfl
  | n + 1, _ :: l => by show dropL n l = _; rw [dropL_eq n l]; simp
noncomputable def takeL {α : Type} (n : Nat) : List α → List α :=
  Nat.rec (fun _ => []) (fun _ ih l => List.rec [] (fun x t _ => x :: ih t) l) n
theorem takeL_eq {α : Type} : ∀ (n : Nat) (l : List α), takeL n l = l.take n
  | 0, _ => rfl
  | _ + 1, [] => rfl
  | n + 1, x :: l => by show x :: takeL n l = _; rw [takeL_eq n l]; simp
noncomputable def hasLen {α : Type} (n : Nat) : List α → Bool :=
  Nat.rec (fun _ => true) (fun _ ih l => List.rec false (fun _ t _ => ih t) l) n
theorem hasLen_le {α : Type} : ∀ (n : Nat) (l : List α), hasLen n l = true → n ≤ l.length
  | 0, _, _ => Nat.zero_le _
  | _ + 1, [], h => by cases h
  | n + 1, _ :: l, h => by have := hasLen_le n l h; simpa using this
noncomputable def over (vs : List Value) : List Value → List Value :=
  List.rec (fun c => c) (fun v _ ih c => List.rec [] (fun _ t _ => v :: ih t) c) vs
noncomputable def splice (off : Nat) (vs : List Value) : List Value → List Value :=
  Nat.rec (fun c => over vs c) (fun _ ih c => List.rec [] (fun x t _ => x :: ih t) c) off
theorem over_eq : ∀ (vs c : List Value), vs.length ≤ c.length → over vs c = vs ++ c.drop vs.length
  | [], _, _ => rfl
  | _ :: _, [], h => by simp at h
  | v :: vs, _ :: c, h => by
    have := over_eq vs c (by simpa using h)
    show v :: over vs c = _
    rw [this]; simp
theorem splice_eq : ∀ (off : Nat) (vs c : List Value), off + vs.length ≤ c.length → splice off vs c = c.take off ++ vs ++ c.drop (off + vs.length)
  | 0, vs, c, h => by
    have := over_eq vs c (by omega)
    show over vs c = _
    rw [this]; simp
  | _ + 1, _, [], h => by simp at h
  | off + 1, vs, x :: c, h => by
    have := splice_eq off vs c (by simp at h; omega)
    show x :: splice off vs c = _
    rw [this]; simp [show off + 1 + vs.length = off + vs.length + 1 by omega]
/-- exactly n cells from a place on -/
noncomputable def sub (c : List Value) (off n : Nat) : Option (List Value) := ifb (hasLen (off + n) c) (some (takeL n (dropL off c))) none
theorem sub_some {c : List Value} {off n : Nat} {r : List Value} (h : sub c off n = some r) : off + n ≤ c.length ∧ r = (c.drop off).take n := by
  obtain ⟨h1, h2⟩ := ifb_eq_some h
  have := hasLen_le _ _ h1
  simp at h2
  exact ⟨this, by rw [← h2, takeL_eq, dropL_eq]⟩
noncomputable def allL {α : Type} (p : α → Bool) (l : List α) : Bool := List.rec true (fun x _ ih => ifb (p x) ih false) l
theorem allL_all {α : Type} (p : α → Bool) : ∀ (l : List α), allL p l = true → l.all p = true
  | [], _ => rfl
  | x :: l, h => by
    have h' : ifb (p x) (allL p l) false = true := h
    cases hp : p x
    · rw [hp] at h'; cases h'
    · rw [hp] at h'; simp [hp]; simpa using allL_all p l h'

/-- A computation that asks nothing of the world. -/
def peek {α : Type} (P : Program) : Sem α → Option α
  | .pure a => some a
  | .program k => peek P (k P)
  | .mark _ k => peek P k
  | _ => none
theorem peek_run {α : Type} {P : Program} : ∀ {s : Sem α} {a : α}, peek P s = some a → ∀ w, s.run P w = .ok a w
  | .pure _, _, h, w => by simp [peek] at h; subst h; rfl
  | .program k, _, h, w => by
    have := peek_run (s := k P) (by simpa [peek] using h) w
    simpa [Sem.run] using this
  | .mark _ k, _, h, w => by
    have := peek_run (s := k) (by simpa [peek] using h) w
    simpa [Sem.run] using this
  | .load .., _, h, _ => by simp [peek] at h
  | .store .., _, h, _ => by simp [peek] at h
  | .new .., _, h, _ => by simp [peek] at h
  | .shape .., _, h, _ => by simp [peek] at h
  | .freeze .., _, h, _ => by simp [peek] at h
  | .frozen .., _, h, _ => by simp [peek] at h
  | .getObj .., _, h, _ => by simp [peek] at h
  | .setObj .., _, h, _ => by simp [peek] at h
  | .choose .., _, h, _ => by simp [peek] at h
  | .sys .., _, h, _ => by simp [peek] at h
  | .halt .., _, h, _ => by simp [peek] at h

/- values, taken apart -/
def pt {α : Type} (p : Value) (f : Nat → Nat → Option α) : Option α := match p with
  | .pointer (some ⟨b, off, none⟩) => f b off
  | _ => none
theorem pt_some {α : Type} {p : Value} {f : Nat → Nat → Option α} {r : α} (h : pt p f = some r) : ∃ b off, p = .pointer (some ⟨b, off, none⟩) ∧ f b off = some r := by
  unfold pt at h
  split at h
  · exact ⟨_, _, rfl, h⟩
  · cases h
def sl {α : Type} (p : Value) (f : Nat → Nat → Nat → Nat → Option α) : Option α := match p with
  | .slice (some ⟨b, off, none⟩) len cap => f b off len cap
  | _ => none
theorem sl_some {α : Type} {p : Value} {f : Nat → Nat → Nat → Nat → Option α} {r : α} (h : sl p f = some r) : ∃ b off len cap, p = .slice (some ⟨b, off, none⟩) len cap ∧ f b off len cap = some r := by
  unfold sl at h
  split at h
  · exact ⟨_, _, _, _, rfl, h⟩
  · cases h
def nn {α : Type} (p : Value) (f : IntKind → Nat → Option α) : Option α := match p with
  | .int k (.ofNat n) => f k n
  | _ => none
theorem nn_some {α : Type} {p : Value} {f : IntKind → Nat → Option α} {r : α} (h : nn p f = some r) : ∃ k n, p = .int k (.ofNat n) ∧ f k n = some r := by
  unfold nn at h
  split at h
  · exact ⟨_, _, rfl, h⟩
  · cases h
def cl {α : Type} (x : ABlk) (f : List Value → AKind → Option α) : Option α := match x with
  | .cells c k => f c k
  | _ => none
theorem cl_some {α : Type} {x : ABlk} {f : List Value → AKind → Option α} {r : α} (h : cl x f = some r) : ∃ c k, x = .cells c k ∧ f c k = some r := by
  unfold cl at h
  split at h
  · exact ⟨_, _, rfl, h⟩
  · cases h
def mp {α : Type} (x : ABlk) (f : List (Value × Value × Nat) → Nat → Option α) : Option α := match x with
  | .map es clock => f es clock
  | _ => none
theorem mp_some {α : Type} {x : ABlk} {f : List (Value × Value × Nat) → Nat → Option α} {r : α} (h : mp x f = some r) : ∃ es clock, x = .map es clock ∧ f es clock = some r := by
  unfold mp at h
  split at h
  · exact ⟨_, _, rfl, h⟩
  · cases h

/-- the cells of a block -/
noncomputable def cellsIn {α : Type} (σ : AHeap) (b : Nat) (f : List Value → AKind → Option α) : Option α := ob (σ.get b) fun x => cl x f
theorem cellsIn_some {α : Type} {σ : AHeap} {b : Nat} {f : List Value → AKind → Option α} {r : α} (h : cellsIn σ b f = some r) : ∃ c k, σ.get b = some (.cells c k) ∧ f c k = some r := by
  obtain ⟨x, h1, h2⟩ := ob_eq_some h
  obtain ⟨c, k, rfl, h3⟩ := cl_some h2
  exact ⟨c, k, h1, h3⟩
noncomputable def mapIn {α : Type} (σ : AHeap) (b : Nat) (f : List (Value × Value × Nat) → Nat → Option α) : Option α := ob (σ.get b) fun x => mp x f
theorem mapIn_some {α : Type} {σ : AHeap} {b : Nat} {f : List (Value × Value × Nat) → Nat → Option α} {r : α} (h : mapIn σ b f = some r) : ∃ c k, σ.get b = some (.map c k) ∧ f c k = some r := by
  obtain ⟨x, h1, h2⟩ := ob_eq_some h
  obtain ⟨c, k, rfl, h3⟩ := mp_some h2
  exact ⟨c, k, h1, h3⟩

noncomputable def push {α : Type} (σ : AHeap) (x : ABlk) (f : Nat → AHeap → Option α) : Option α :=
  f σ.next { t := Tr.set (pthN σ.next) (some x) σ.t, next := σ.next + 1 }
theorem push_some {α : Type} {σ : AHeap} {x : ABlk} {f : Nat → AHeap → Option α} {r : α} (h : push σ x f = some r) :
    ∃ σ' : AHeap, σ'.get = AMap.set σ.get σ.next (some x) ∧ σ'.next = σ.next + 1 ∧ f σ.next σ' = some r :=
  ⟨_, AHeap.get_set (b := σ.next) { t := σ.t, next := σ.next + 1 } (some x), rfl, h⟩

/- operands -/
noncomputable def fget (i : Nat) : Tr Value → Option Value := Tr.get (pth 16 i)
noncomputable def aval (G : Nat) (x : Operand) : Tr Value → Option Value :=
  match x with
  | .tmp t => ifb (Nat.blt t 65536) (fget t) (fun _ => none)
  | .const v => ifb (closedD 8 v) (fun _ => some v) (fun _ => none)
  | .global g => ifb (Nat.blt g G) (fun _ => some (.pointer (some ⟨g, 0, none⟩))) (fun _ => none)
  | .func f => fun _ => some (.func (.func f) #[] #[])

noncomputable def avals (G : Nat) (l : List Operand) : Tr Value → Option (List Value) :=
  List.rec (fun _ => some []) (fun x _ ih t => ob (aval G x t) fun v => ob (ih t) fun r => some (v :: r)) l

inductive AR where
  | val (v : Value) (σ : AHeap)
  | skip (σ : AHeap)
  | enter (f : FuncId) (args : List Value)

def writable : AKind → Bool
  | .ro => false
  | _ => true

def isAggD : TypeDesc → Bool
  | .struct _ | .array _ _ => true
  | _ => false

def vs1 (σ : AHeap) (x : Option Value) : Option AR := match x with
  | some v => some (.val v σ)
  | none => none
def ss1 (x : Option AHeap) : Option AR := match x with
  | some σ => some (.skip σ)
  | none => none
theorem vs1_some {σ : AHeap} {x : Option Value} {r : AR} (h : vs1 σ x = some r) : ∃ v, x = some v ∧ r = .val v σ := by
  unfold vs1 at h
  split at h
  · simp at h; exact ⟨_, rfl, h.symm⟩
  · cases h
theorem ss1_some {x : Option AHeap} {r : AR} (h : ss1 x = some r) : ∃ σ, x = some σ ∧ r = .skip σ := by
  unfold ss1 at h
  split at h
  · simp at h; exact ⟨_, rfl, h.symm⟩
  · cases h

/- memory -/
noncomputable def loadOne (σ : AHeap) (p : Value) : Option Value := pt p fun b off => cellsIn σ b fun c _ => nth off c
noncomputable def loadAgg (n : Nat) (σ : AHeap) (p : Value) : Option Value := pt p fun b off => cellsIn σ b fun c _ => ob (sub c off n) fun r => some (.agg ⟨r⟩)
noncomputable def cLoad (P : Program) (t : TypeId) : AHeap → Value → Option Value :=
  match P.underlying t, P.info? t with
  | some d, some i => ifb (isAggD d) (loadAgg i.size) loadOne
  | _, _ => fun _ _ => none

noncomputable def storeN (n : Nat) (σ : AHeap) (p v : Value) : Option AHeap :=
  pt p fun b off => cellsIn σ b fun c k =>
    (fun vs => ifb (Nat.beq vs.length n) (ifb (writable k) (ifb (hasLen (off + n) c) (ifb (allL oneV vs) (some (σ.set b (some (.cells (splice off vs c) k)))) none) none) none) none) v.cells.toList
noncomputable def cStore (P : Program) (t : TypeId) : AHeap → Value → Value → Option AHeap :=
  match P.info? t with
  | some i => storeN i.size
  | none => fun _ _ _ => none

def zeroOf (P : Program) (t : TypeId) : Option Value :=
  match P.info? t with
  | none => none
  | some i => match i.zero with
    | none => none
    | some z => bif closedD 8 z then some z else none

noncomputable def aNew (σ : AHeap) (v : Value) : Option AR :=
  (fun vs => ifb (allL oneV vs) (push σ (.cells vs .own) fun b σ' => some (.val (.pointer (some ⟨b, 0, none⟩)) σ')) none) v.cells.toList

noncomputable def fillA (place : Nat → Option (Nat × Nat)) (parts : List (Nat × Value)) : List Value → Option (List Value) :=
  List.rec (fun c => some c) (fun x _ ih c => ob (place x.1) fun pl => (fun vs => ifb (Nat.beq vs.length pl.2) (ifb (hasLen (pl.1 + vs.length) c) (ifb (allL oneV vs) (ih (splice pl.1 vs c)) none) none) none) x.2.cells.toList) parts

noncomputable def aParts (G : Nat) (l : List (Nat × Operand)) : Tr Value → Option (List (Nat × Value)) :=
  List.rec (fun _ => some []) (fun x _ ih t => ob (aval G x.2 t) fun v => ob (ih t) fun r => some ((x.1, v) :: r)) l

def placesOf (P : Program) : List Field → Option (List (Nat × Nat))
  | [] => some []
  | f :: r =>
    match P.info? f.type with
    | none => none
    | some i => match placesOf P r with
      | none => none
      | some l => some ((f.offset, i.size) :: l)

noncomputable def buildWith (place : Nat → Option (Nat × Nat)) (z : Value) (parts : List (Nat × Value)) : Option Value := ob (fillA place parts z.cells.toList) fun c => some (.agg ⟨c⟩)
noncomputable def cBuild (P : Program) (t : TypeId) : List (Nat × Value) → Option Value :=
  match zeroOf P t with
  | none => fun _ => none
  | some z =>
    match P.underlying t with
    | some (.struct fields) =>
      match placesOf P fields.toList with
      | none => fun _ => none
      | some pl => buildWith (fun i => nth i pl) z
    | some (.array _ elem) =>
      match P.info? elem with
      | none => fun _ => none
      | some i => buildWith (fun j => some (j * i.size, i.size)) z
    | _ => fun _ => none

/-- n cells that go through z again and again -/
noncomputable def cyc (z : List Value) (n : Nat) : List Value → List Value :=
  Nat.rec (fun _ => []) (fun _ ih t => List.rec (List.rec [] (fun v t _ => v :: ih t) z) (fun v t _ => v :: ih t) t) n

noncomputable def bsl (z : List Value) (len size : Nat) (σ : AHeap) (parts : List (Nat × Value)) : Option AR :=
  ob (fillA (fun j => some (j * size, size)) parts (cyc z (len * size) z)) fun c => push σ (.cells c .own) fun b σ' => some (.val (.slice (some ⟨b, 0, none⟩) len len) σ')
noncomputable def cBuildSlice (P : Program) (t : TypeId) (len : Nat) : AHeap → List (Nat × Value) → Option AR :=
  match P.underlying t with
  | some (.slice elem) =>
    match P.info? elem, zeroOf P elem with
    | some i, some z => ifb (Nat.ble (len * i.size) 16777216 && Nat.blt len BIG && Nat.beq z.cells.size i.size) (bsl z.cells.toList len i.size) (fun _ _ => none)
    | _, _ => fun _ _ => none
  | _ => fun _ _ => none

noncomputable def mks (z : List Value) (size bytes : Nat) (σ : AHeap) (l c : Value) : Option AR :=
  nn l fun _ l => nn c fun _ c =>
    ifb (Nat.ble (bytes * c) 281474976710656 && Nat.ble l c && Nat.blt c 9223372036854775808)
      (push σ (.cells (cyc z (c * size) z) .own) fun b σ' => some (.val (.slice (some ⟨b, 0, none⟩) l c) σ')) none
noncomputable def cMakeSlice (P : Program) (t : TypeId) : AHeap → Value → Value → Option AR :=
  match P.underlying t with
  | some (.slice elem) =>
    match P.info? elem, zeroOf P elem with
    | some i, some z => ifb (Nat.beq z.cells.size i.size) (mks z.cells.toList i.size i.bytes) (fun _ _ _ => none)
    | _, _ => fun _ _ _ => none
  | _ => fun _ _ _ => none

/- slices -/
def emptyMark : Value := .slice (some ⟨0, 0, some 0⟩) 0 0
/-- A bound of a slice expression that lies in 0..y. -/
noncomputable def aBound (y : Nat) (v : Value) : Option Nat := nn v fun _ n => ifb (Nat.ble n y) (some n) none
noncomputable def aHigh (len y : Nat) (v : Option Value) : Option Nat := match v with
  | none => ifb (Nat.ble len y) (some len) none
  | some v => aBound y v
noncomputable def aLow (h : Nat) (v : Option Value) : Option Nat := match v with
  | none => some 0
  | some v => aBound h v
/-- How many elements of a block are known. -/
noncomputable def known (σ : AHeap) (b es : Nat) : Option Nat := cellsIn σ b fun c k => match k with
  | .grow es' => ifb (Nat.beq es es' && Nat.blt 0 es) (some (c.length / es)) none
  | _ => none

noncomputable def at_ (b off l size m : Nat) : Option Addr := ifb (Nat.beq m l) (some ⟨b, off, none⟩) (some ⟨b, off + l * size, none⟩)

noncomputable def slArr (n size : Nat) (x : Value) (low high max : Option Value) : Option Value :=
  match max with
  | none => pt x fun b off => ob (aHigh n n high) fun h => ob (aLow h low) fun l => ifb (Nat.blt n BIG) (some (.slice (at_ b off l size n) (h - l) (n - l))) none
  | some _ => none
noncomputable def slNil (low high max : Option Value) : Option Value :=
  match max with
  | none => ob (aHigh 0 0 high) fun h => ob (aLow h low) fun _ => some (.slice none 0 0)
  | some v => match high with
    | some hv => ob (aBound 0 v) fun m => ob (aBound m hv) fun h => ob (aLow h low) fun _ => some (.slice none 0 0)
    | none => none
noncomputable def slExact (size b off len cap : Nat) (low high max : Option Value) : Option Value :=
  match max with
  | none => ob (aHigh len cap high) fun h => ob (aLow h low) fun l => some (.slice (at_ b off l size cap) (h - l) (cap - l))
  | some v => match high with
    | some hv => ob (aBound cap v) fun m => ob (aBound m hv) fun h => ob (aLow h low) fun l => some (.slice (at_ b off l size m) (h - l) (m - l))
    | none => none
noncomputable def slGrow (σ : AHeap) (size b off len k : Nat) (low high max : Option Value) : Option Value :=
  ob (known σ b size) fun kn =>
    match max with
    | none => ob (aHigh len (kn - k) high) fun h => ob (aLow h low) fun l =>
        ifb (Nat.ble (k + h) kn) (ifb (Nat.beq l h && !(Nat.beq l 0) && !(Nat.blt (k + l) kn)) (some emptyMark) (some (.slice (some ⟨b, off + l * size, none⟩) (h - l) (BIG + (k + l))))) none
    | some v => match high with
      | some hv => ob (aBound (kn - k) v) fun m => ob (aBound m hv) fun h => ob (aLow h low) fun l =>
        ifb (Nat.ble (k + m) kn && Nat.blt m BIG && Nat.blt 0 kn) (some (.slice (at_ b off l size m) (h - l) (m - l))) none
      | none => none
noncomputable def slEm (low high max : Option Value) : Option Value :=
  match max with
  | none => ob (aHigh 0 0 high) fun h => ob (aLow h low) fun _ => some emptyMark
  | some v => match high with
    | some hv => ob (aBound 0 v) fun m => ob (aBound m hv) fun h => ob (aLow h low) fun _ => some emptyMark
    | none => none
noncomputable def slSl (size : Nat) (σ : AHeap) (x : Value) (low high max : Option Value) : Option Value :=
  match x with
  | .slice none 0 0 => slNil low high max
  | .slice (some ⟨b, off, none⟩) len cap => ifb (Nat.blt cap BIG) (slExact size b off len cap low high max) (slGrow σ size b off len (cap - BIG) low high max)
  | .slice (some ⟨0, 0, some 0⟩) 0 0 => slEm low high max
  | _ => none
noncomputable def cSlice (P : Program) (t : TypeId) : AHeap → Value → Option Value → Option Value → Option Value → Option Value :=
  match P.underlying t with
  | some (.array n elem) => match P.info? elem with
    | some i => fun _ => slArr n i.size
    | none => fun _ _ _ _ _ => none
  | some (.slice elem) => match P.info? elem with
    | some i => slSl i.size
    | none => fun _ _ _ _ _ => none
  | _ => fun _ _ _ _ _ => none

noncomputable def ixArr (len size : Nat) (x i : Value) : Option Value :=
  pt x fun b off => nn i fun _ i => ifb (Nat.blt i len) (some (.pointer (some ⟨b, off + i * size, none⟩))) none
noncomputable def ixSl (size : Nat) (x i : Value) : Option Value :=
  sl x fun b off len _ => nn i fun _ i => ifb (Nat.blt i len) (some (.pointer (some ⟨b, off + i * size, none⟩))) none
noncomputable def cIndexAddr (P : Program) (t : TypeId) : Value → Value → Option Value :=
  match P.underlying t with
  | some (.array len elem) => match P.info? elem with
    | some e => ixArr len e.size
    | none => fun _ _ => none
  | some (.slice elem) => match P.info? elem with
    | some e => ixSl e.size
    | none => fun _ _ => none
  | _ => fun _ _ => none

noncomputable def cFieldAddr (P : Program) (s : TypeId) (fi : Nat) : Value → Option Value :=
  match P.underlying s with
  | some (.struct fields) =>
    match fields[fi]? with
    | none => fun _ => none
    | some f => match P.info? f.type with
      | none => fun _ => none
      | some i => ifb (Nat.beq i.size 0) (fun _ => none) (fun x => pt x fun b off => some (.pointer (some ⟨b, off + f.offset, none⟩)))
  | _ => fun _ => none

noncomputable def cPart (P : Program) (t : TypeId) : List Value → Nat → Option Value :=
  match P.underlying t, P.info? t with
  | some d, some i => ifb (isAggD d) (fun c off => ob (sub c off i.size) fun r => some (.agg ⟨r⟩)) (fun c off => nth off c)
  | _, _ => fun _ _ => none

def ag {α : Type} (x : Value) (f : List Value → Option α) : Option α := match x with
  | .agg c => f c.toList
  | _ => none
theorem ag_some {α : Type} {p : Value} {f : List Value → Option α} {r : α} (h : ag p f = some r) : ∃ c, p = .agg c ∧ f c.toList = some r := by
  unfold ag at h
  split at h
  · exact ⟨_, rfl, h⟩
  · cases h

noncomputable def cField (P : Program) (t : TypeId) (fi : Nat) : Value → Option Value :=
  match P.underlying t with
  | some (.struct fields) =>
    match fields[fi]? with
    | none => fun _ => none
    | some f => fun x => ag x fun c => cPart P f.type c f.offset
  | _ => fun _ => none

/-- what is asked of the model itself, where it is a value without parts -/
noncomputable def pk (x : Option Value) : Option Value := ob x fun v => ifb (closedD 1 v) (some v) none
theorem pk_some {x : Option Value} {v : Value} (h : pk x = some v) : x = some v ∧ closedD 1 v = true := by
  obtain ⟨u, h1, h⟩ := ob_eq_some h
  obtain ⟨h2, h⟩ := ifb_eq_some h
  obtain rfl := Option.some.inj h
  exact ⟨h1, h2⟩

def ixStr (P : Program) (t : TypeId) (x i : Value) : Option Value := match x, i with
  | .string s, .int k n => peek P (Instr.index t (.string s) (.int k n))
  | _, _ => none
noncomputable def cIndex (P : Program) (t : TypeId) : Value → Value → Option Value :=
  match P.underlying t with
  | some (.array len elem) => match P.info? elem with
    | some e => fun x i => ag x fun c => nn i fun _ i => ifb (Nat.blt i len) (cPart P elem c (i * e.size)) none
    | none => fun _ _ => none
  | some .string => fun x i => pk (ixStr P t x i)
  | _ => fun _ _ => none

/- comparisons -/
/-- == of closed values of a type, the parts one by one. -/
noncomputable def eqFields (eq : Value → Value → Option Bool) (skip : Bool) (part : List Value → Option Value) (rest : List Value → List Value → Option Bool) (xs ys : List Value) : Option Bool :=
  ifb skip (rest xs ys) (ob (part xs) fun u => ob (part ys) fun v => ob (eq u v) fun b => ifb b (rest xs ys) (some false))
noncomputable def eqElems (eq : Value → Value → Option Bool) (size n : Nat) : Nat → List Value → List Value → Option Bool :=
  Nat.rec (fun _ _ _ => some true) (fun _ ih i xs ys => ob (ifb (Nat.beq size 1) (nth i xs) none) fun u => ob (ifb (Nat.beq size 1) (nth i ys) none) fun v => ob (eq u v) fun b => ifb b (ih (i + 1) xs ys) (some false)) n
noncomputable def eqStruct (P : Program) (eq : TypeId → Value → Value → Option Bool) (l : List Field) : List Value → List Value → Option Bool :=
  List.rec (fun _ _ => some true) (fun f _ ih => eqFields (eq f.type) (f.name == "_") (fun c => cPart P f.type c f.offset) ih) l
noncomputable def eqInt (x y : Value) : Option Bool := match x, y with
  | .int k (.ofNat a), .int k' (.ofNat b) => ifb (decide (k = k')) (some (Nat.beq a b)) none
  | .int k a, .int k' b => ifb (decide (k = k')) (some (a == b)) none
  | _, _ => none
def eqBool (x y : Value) : Option Bool := match x, y with
  | .bool a, .bool b => some (a == b)
  | _, _ => none
def eqStr (x y : Value) : Option Bool := match x, y with
  | .string a, .string b => some (a == b)
  | _, _ => none
noncomputable def cEq (P : Program) (d : Nat) : TypeId → Value → Value → Option Bool :=
  Nat.rec (fun _ _ _ => none) (fun _ ih t =>
    match P.underlying t with
    | some .bool => eqBool
    | some (.int _) => eqInt
    | some .string => eqStr
    | some (.struct fields) => ifb (P.stoodInHeld t) (fun _ _ => none) (fun x y => ag x fun xs => ag y fun ys => eqStruct P ih fields.toList xs ys)
    | some (.array len elem) => match P.info? elem, P.underlying elem with
      | some i, some d => ifb (isAggD d) (fun _ _ => none) (fun x y => ag x fun xs => ag y fun ys => eqElems (ih elem) i.size len 0 xs ys)
      | _, _ => fun _ _ => none
    | _ => fun _ _ => none) d

def kM : IntKind → Nat
  | .i8 | .u8 => 256
  | .i16 | .u16 => 65536
  | .i32 | .u32 => 4294967296
  | .i64 | .u64 => 18446744073709551616
def kH : IntKind → Nat
  | .i8 => 128
  | .i16 => 32768
  | .i32 => 2147483648
  | .i64 => 9223372036854775808
  | .u8 => 256
  | .u16 => 65536
  | .u32 => 4294967296
  | .u64 => 18446744073709551616
noncomputable def wrapM (M H : Nat) (k : IntKind) (n : Nat) : Option Value :=
  ifb (Nat.blt n H) (some (.int k (.ofNat n))) (ifb (Nat.blt (Nat.mod n M) H) (some (.int k (.ofNat (Nat.mod n M)))) none)
noncomputable def wrapN (k : IntKind) (n : Nat) : Option Value := wrapM (kM k) (kH k) k n

noncomputable def vB (b : Bool) : Option Value := some (.bool b)
noncomputable def inR (k : IntKind) (a b r : Nat) : Option Value := ifb (Nat.blt a (kH k)) (ifb (Nat.blt b (kH k)) (some (.int k (.ofNat r))) none) none

noncomputable def fastBin (op : BinOp) : IntKind → Nat → Nat → Option Value :=
  match op with
  | .add => fun k a b => wrapN k (Nat.add a b)
  | .sub => fun k a b => ifb (Nat.ble b a) (wrapN k (Nat.sub a b)) none
  | .mul => fun k a b => wrapN k (Nat.mul a b)
  | .quo => fun k a b => ifb (Nat.blt 0 b) (inR k a 0 (Nat.div a b)) none
  | .rem => fun k a b => ifb (Nat.blt 0 b) (inR k a 0 (Nat.mod a b)) none
  | .and => fun k a b => inR k a b (Nat.land a b)
  | .or => fun k a b => inR k a b (Nat.lor a b)
  | .xor => fun k a b => inR k a b (Nat.xor a b)
  | .eql => fun _ a b => vB (Nat.beq a b)
  | .neq => fun _ a b => vB (!(Nat.beq a b))
  | .lss => fun _ a b => vB (Nat.blt a b)
  | .leq => fun _ a b => vB (Nat.ble a b)
  | .gtr => fun _ a b => vB (Nat.blt b a)
  | .geq => fun _ a b => vB (Nat.ble b a)
  | _ => fun _ _ _ => none

noncomputable def fastShift (op : BinOp) : IntKind → Nat → Nat → Option Value :=
  match op with
  | .shl => fun k a b => ifb (Nat.blt b 64) (wrapN k (Nat.shiftLeft a b)) none
  | .shr => fun k a b => ifb (Nat.blt b 64) (inR k a 0 (Nat.shiftRight a b)) none
  | _ => fun _ _ _ => none

def isShift : BinOp → Bool
  | .shl | .shr => true
  | _ => false

noncomputable def orElseV (a b : Option Value) : Option Value := Option.rec b (fun v => some v) a
theorem orElseV_some {a b : Option Value} {v : Value} (h : orElseV a b = some v) : a = some v ∨ b = some v := by
  cases a with
  | none => exact .inr h
  | some x => exact .inl h

noncomputable def binFast (op : BinOp) : IntKind → Nat → IntKind → Nat → Option Value :=
  ifb (isShift op) (fun k a _ b => fastShift op k a b) (fun k a k' b => ifb (decide (k = k')) (fastBin op k a b) none)

def nilEq : Value → Value → Option Bool
  | .pointer none, .pointer none => some true
  | .pointer (some ⟨_, _, none⟩), .pointer none => some false
  | .pointer none, .pointer (some ⟨_, _, none⟩) => some false
  | .slice none 0 0, .slice none 0 0 => some true
  | .slice (some ⟨_, _, none⟩) len cap, .slice none 0 0 => bif Nat.blt cap BIG || Nat.blt 0 len then some false else none
  | .nilIface, .nilIface => some true
  | .iface _ _, .nilIface => some false
  | .nilIface, .iface _ _ => some false
  | .map none, .map none => some true
  | .map (some _), .map none => some false
  | .nilFunc, .nilFunc => some true
  | .func _ _ _, .nilFunc => some false
  | _, _ => none

def isNilType : Option TypeDesc → Value → Bool
  | some (.pointer _), .pointer _ => true
  | some (.slice _), .slice _ _ _ => true
  | some (.interface _), .nilIface => true
  | some (.interface _), .iface _ _ => true
  | some (.map _ _), .map _ => true
  | some (.func _ _ _), .nilFunc => true
  | some (.func _ _ _), .func _ _ _ => true
  | _, _ => false

def isC : Operand → Bool
  | .const _ => true
  | _ => false
noncomputable def otherEq (P : Program) (c : Bool) (t : TypeId) (x y : Value) : Option Bool := match x, y with
  | .agg _, .agg _ => ifb (P.eqGuardType P.depth t) none (ifb (closedD 8 x && closedD 8 y) (cEq P 20 t x y) none)
  | _, _ => ifb (isNilType (P.underlying t) x && c) (nilEq x y) none

noncomputable def cBinOther (P : Program) (c : Bool) (op : BinOp) (t : TypeId) (x y : Value) : Option Value := match op with
  | .eql => ob (otherEq P c t x y) fun b => some (.bool b)
  | .neq => ob (otherEq P c t x y) fun b => some (.bool (!b))
  | _ => none

/-- the same bytes -/
noncomputable def bytesEq (l : List UInt8) : List UInt8 → Bool := List.rec (fun r => List.rec true (fun _ _ _ => false) r) (fun x _ ih r => List.rec false (fun y t _ => ifb (Nat.beq x.toNat y.toNat) (ih t) false) r) l
theorem bytesEq_eq : ∀ (l r : List UInt8), bytesEq l r = true → l = r
  | [], [], _ => rfl
  | [], _ :: _, h => by cases h
  | _ :: _, [], h => by cases h
  | x :: l, y :: r, h => by
    have h' : ifb (Nat.beq x.toNat y.toNat) (bytesEq l r) false = true := h
    cases hc : Nat.beq x.toNat y.toNat
    · rw [hc] at h'; cases h'
    · rw [hc, ifb_true] at h'
      rw [UInt8.toNat_inj.1 (Nat.eq_of_beq_eq_true hc), bytesEq_eq l r h']
noncomputable def strEq (op : BinOp) (a b : ByteArray) : Option Value := match op with
  | .eql => ifb (bytesEq a.data.toList b.data.toList) (some (.bool true)) none
  | .neq => ifb (bytesEq a.data.toList b.data.toList) (some (.bool false)) none
  | _ => none
theorem strEq_some {op : BinOp} {a b : ByteArray} {v : Value} (h : strEq op a b = some v) : a = b ∧ ((op = .eql ∧ v = .bool true) ∨ (op = .neq ∧ v = .bool false)) := by
  have key : bytesEq a.data.toList b.data.toList = true → a = b := fun h => by
    obtain ⟨⟨a⟩⟩ := a; obtain ⟨⟨b⟩⟩ := b
    have := bytesEq_eq _ _ h
    simpa using this
  unfold strEq at h
  split at h
  · obtain ⟨h1, h2⟩ := ifb_eq_some h; exact ⟨key h1, .inl ⟨rfl, (Option.some.inj h2).symm⟩⟩
  · obtain ⟨h1, h2⟩ := ifb_eq_some h; exact ⟨key h1, .inr ⟨rfl, (Option.some.inj h2).symm⟩⟩
  · cases h

noncomputable def cBinWith (P : Program) (c : Bool) (op : BinOp) (t : TypeId) (fast : IntKind → Nat → IntKind → Nat → Option Value) (x y : Value) : Option Value := match x, y with
  | .int k (.ofNat a), .int k' (.ofNat b) => orElseV (fast k a k' b) (pk (peek P (binOp op t (.int k a) (.int k' b))))
  | .int k a, .int k' b => pk (peek P (binOp op t (.int k a) (.int k' b)))
  | .string a, .string b => orElseV (strEq op a b) (pk (peek P (binOp op t (.string a) (.string b))))
  | .bool a, .bool b => pk (peek P (binOp op t (.bool a) (.bool b)))
  | x, y => cBinOther P c op t x y
noncomputable def cBin (P : Program) (c : Bool) (op : BinOp) (t : TypeId) : Value → Value → Option Value := cBinWith P c op t (binFast op)

noncomputable def oUn (P : Program) (op : UnOp) : Value → Option Value
  | .int k n => pk (peek P (Op.unary op (.int k n)))
  | .bool b => pk (peek P (Op.unary op (.bool b)))
  | _ => none

noncomputable def convWith (P : Program) (s d : TypeId) (k' : IntKind) : Value → Option Value
  | .int k (.ofNat n) => orElseV (wrapN k' n) (pk (peek P (convert s d (.int k (.ofNat n)))))
  | .int k n => pk (peek P (convert s d (.int k n)))
  | _ => none
noncomputable def convSlow (P : Program) (s d : TypeId) : Value → Option Value
  | .int k n => pk (peek P (convert s d (.int k n)))
  | .string b => pk (peek P (convert s d (.string b)))
  | _ => none
noncomputable def cConv (P : Program) (s d : TypeId) : Value → Option Value :=
  match P.underlying s, P.underlying d with
  | some (.int _), some (.int k') => convWith P s d k'
  | _, _ => convSlow P s d

noncomputable def s2a (n : Nat) (x : Value) : Option Value := sl x fun b off len _ => ifb (Nat.ble n len && Nat.blt 0 len) (some (.pointer (some ⟨b, off, none⟩))) none
noncomputable def cS2a (P : Program) (t : TypeId) : Value → Option Value :=
  match P.underlying t with
  | some (.array n _) => s2a n
  | _ => fun _ => none

def cIface (P : Program) (t : TypeId) : Value → Option Value :=
  match P.underlying t with
  | some (.interface _) => fun _ => none
  | some _ => fun v => some (.iface t v)
  | none => fun _ => none

def isPlainFn : Fn → Bool
  | .func _ => true
  | _ => false

noncomputable def cFunc (G : Nat) (fn : Fn) (first captured : Array Operand) : Tr Value → Option Value :=
  ifb (isPlainFn fn) (fun t => ob (avals G first.toList t) fun f => ob (avals G captured.toList t) fun c => some (.func fn ⟨f⟩ ⟨c⟩)) (fun _ => none)

/- maps -/
noncomputable def mapFind (eq : Value → Value → Option Bool) (k : Value) (es : List (Value × Value × Nat)) : Nat → Option (Option (Nat × Value × Nat)) :=
  List.rec (fun _ => some none) (fun e _ ih i => ifb (closedD 8 e.1) (ob (eq k e.1) fun b => ifb b (some (some (i, e.2))) (ih (i + 1))) none) es

/-- the look at a key finds nothing amiss -/
noncomputable def keyOk (P : Program) (kt : TypeId) (empty : Bool) (k : Value) : Bool := ifb (closedD 8 k) (match peek P (Instr.checkKey empty 10000 kt k) with
  | some _ => true
  | none => false) false

noncomputable def mapOf {α : Type} (σ : AHeap) (m : Value) (f : List (Value × Value × Nat) → Option α) : Option α := match m with
  | .map none => f []
  | .map (some b) => mapIn σ b fun es _ => f es
  | _ => none

noncomputable def lkp (P : Program) (kt : TypeId) (z : Value) (ok : Bool) (σ : AHeap) (m k : Value) : Option Value :=
  mapOf σ m fun es => ifb (keyOk P kt es.isEmpty k) (ob (mapFind (cEq P 20 kt) k es 0) fun r => match r with
    | some (_, v, _) => some (ifb ok (.tuple ⟨[v, .bool true]⟩) v)
    | none => some (ifb ok (.tuple ⟨[z, .bool false]⟩) z)) none
noncomputable def cLookup (P : Program) (t : TypeId) (ok : Bool) : AHeap → Value → Value → Option Value :=
  match P.underlying t with
  | some (.map kt et) => match zeroOf P et with
    | some z => lkp P kt z ok
    | none => fun _ _ _ => none
  | _ => fun _ _ _ => none

def mpt {α : Type} (m : Value) (f : Nat → Option α) : Option α := match m with
  | .map (some b) => f b
  | _ => none
theorem mpt_some {α : Type} {p : Value} {f : Nat → Option α} {r : α} (h : mpt p f = some r) : ∃ b, p = .map (some b) ∧ f b = some r := by
  unfold mpt at h
  split at h
  · exact ⟨_, rfl, h⟩
  · cases h

noncomputable def mup (P : Program) (kt : TypeId) (σ : AHeap) (m k v : Value) : Option AHeap :=
  mpt m fun b => mapIn σ b fun es clock => ifb (keyOk P kt false k) (ob (mapFind (cEq P 20 kt) k es 0) fun r => match r with
    | some _ => none
    | none => some (σ.set b (some (.map (es ++ [(k, v, clock)]) (clock + 1))))) none
noncomputable def cMapUpdate (P : Program) (t : TypeId) : AHeap → Value → Value → Value → Option AHeap :=
  match P.underlying t with
  | some (.map kt _) => mup P kt
  | _ => fun _ _ _ _ => none

/- append, copy -/
def lenA : Value → Option Nat
  | .slice none 0 0 => some 0
  | .slice (some _) n _ => some n
  | .string s => some s.size
  | _ => none

/-- The first n elements' cells. -/
noncomputable def firstA (σ : AHeap) (size n : Nat) : Value → Option (List Value)
  | .slice none 0 0 => some []
  | .slice (some ⟨b, off, none⟩) len _ => ifb (Nat.ble n len) (cellsIn σ b fun c _ => sub c off (n * size)) none
  | .slice (some ⟨0, 0, some 0⟩) 0 0 => ifb (Nat.beq n 0) (some []) none
  | _ => none

/-- bytes as a text -/
noncomputable def strStep (c : Value) (ih : Option (List UInt8)) : Option (List UInt8) := match c with
  | .int .u8 (.ofNat n) => ob ih fun r => some (UInt8.ofNat n :: r)
  | _ => none
noncomputable def strOf (l : List Value) : Option (List UInt8) := List.rec (some []) (fun c _ ih => strStep c ih) l
noncomputable def bytesStr (σ : AHeap) (x : Value) : Option Value := ob (lenA x) fun n => ob (firstA σ 1 n x) fun c => ob (strOf c) fun r => match x with
  | .slice _ _ _ => some (.string ⟨⟨r⟩⟩)
  | _ => none
noncomputable def cConvH (P : Program) (s d : TypeId) : AHeap → Value → Option Value :=
  match P.underlying s, P.underlying d with
  | some (.slice e), some .string => match P.underlying e with
    | some (.int .u8) => bytesStr
    | _ => fun _ _ => none
  | _, _ => fun _ => cConv P s d

def capOk (need bytes : Nat) : Bool := Nat.ble (need * bytes * 4) 1099511627776

/-- What is appended: how many elements, and their cells. -/
noncomputable def srcSl (size : Nat) (σ : AHeap) (x : Value) : Option (Nat × List Value) := ob (lenA x) fun n => ob (firstA σ size n x) fun c => some (n, c)
noncomputable def srcZ (z : List Value) (size : Nat) (_ : AHeap) (x : Value) : Option (Nat × List Value) := nn x fun k n => ifb (decide (k = .i64) && Nat.blt n 1099511627776) (some (n, cyc z (n * size) z)) none

noncomputable def fresh (σ : AHeap) (size len : Nat) (c : List Value) : Option AR := push σ (.cells c (.grow size)) fun b σ' => some (.val (.slice (some ⟨b, 0, none⟩) len (BIG + 0)) σ')
noncomputable def appNil (σ : AHeap) (size bytes n : Nat) (new : List Value) : Option AR := ifb (Nat.beq n 0) (some (.val (.slice none 0 0) σ)) (ifb (capOk n bytes) (fresh σ size n new) none)
noncomputable def appExact (σ : AHeap) (size bytes b off len cap : Nat) (c : List Value) (k : AKind) (old : List Value) (n : Nat) (new : List Value) : Option AR :=
  ifb (Nat.ble (len + n) cap)
    (ifb (writable k && hasLen (off + (len + n) * size) c && allL oneV new && capOk (len + n) bytes) (some (.val (.slice (some ⟨b, off, none⟩) (len + n) cap) (σ.set b (some (.cells (splice (off + len * size) new c) k))))) none)
    (ifb (capOk (len + n) bytes && capOk cap bytes) (fresh σ size (len + n) (old ++ new)) none)
noncomputable def appGrow (σ : AHeap) (size bytes b off len kk : Nat) (k : AKind) (old : List Value) (n : Nat) (new : List Value) : Option AR :=
  match k with
  | .grow es => ifb (Nat.beq es size && Nat.beq off (kk * es) && allL oneV new && capOk (len + n) bytes) (fresh (σ.set b none) size (len + n) (old ++ new)) none
  | _ => none
noncomputable def appAt (size bytes : Nat) (σ : AHeap) (s : Value) (n : Nat) (new : List Value) : Option AR :=
  match s with
  | .slice none 0 0 => appNil σ size bytes n new
  | .slice (some ⟨b, off, none⟩) len cap => cellsIn σ b fun c k => ob (sub c off (len * size)) fun old =>
      ifb (Nat.blt cap BIG) (appExact σ size bytes b off len cap c k old n new) (appGrow σ size bytes b off len (cap - BIG) k old n new)
  | _ => none
noncomputable def appWith (src : AHeap → Value → Option (Nat × List Value)) (size bytes : Nat) (σ : AHeap) (s x : Value) : Option AR :=
  ob (src σ x) fun r => appAt size bytes σ s r.1 r.2
noncomputable def cAppend (P : Program) (st : TypeId) (xt : Option TypeId) : AHeap → Value → Value → Option AR :=
  match P.underlying st, xt with
  | some (.slice elem), some xt =>
    match P.info? elem, zeroOf P elem with
    | some i, some z =>
      ifb (Nat.blt 0 i.size && Nat.blt 0 i.bytes && Nat.beq z.cells.size i.size) (appWith (match P.underlying xt with
        | some (.int _) => srcZ z.cells.toList i.size
        | some (.slice _) => srcSl i.size
        | _ => fun _ _ => none) i.size i.bytes) (fun _ _ _ => none)
    | _, _ => fun _ _ _ => none
  | _, _ => fun _ _ _ => none

noncomputable def cpy (size : Nat) (σ : AHeap) (d s : Value) : Option AR :=
  ob (lenA s) fun sLen => match d with
    | .slice (some ⟨b, off, none⟩) dLen _ => ob (firstA σ size (Nat.min sLen dLen) s) fun new => cellsIn σ b fun c k =>
        ifb (writable k && hasLen (off + new.length) c && allL oneV new) (some (.val (goInt (Nat.min sLen dLen)) (σ.set b (some (.cells (splice off new c) k))))) none
    | _ => none
noncomputable def cCopy (P : Program) (dt : TypeId) : AHeap → Value → Value → Option AR :=
  match P.underlying dt with
  | some (.slice elem) => match P.info? elem with
    | some i => cpy i.size
    | none => fun _ _ _ => none
  | _ => fun _ _ _ => none

noncomputable def lenOf (P : Program) (t : TypeId) : AHeap → Value → Option Value :=
  match P.underlying t with
  | some (.slice _) => fun _ x => match x with
    | .slice none 0 0 => some (goInt 0)
    | .slice (some _) n _ => some (goInt n)
    | _ => none
  | some .string => fun _ x => match x with
    | .string s => some (goInt s.size)
    | _ => none
  | some (.array n _) => fun _ _ => some (goInt n)
  | some (.map _ _) => fun σ x => mapOf σ x fun es => some (goInt es.length)
  | _ => fun _ _ => none
noncomputable def capOf (P : Program) (t : TypeId) : Value → Option Value :=
  match P.underlying t with
  | some (.slice _) => fun x => match x with
    | .slice none 0 0 => some (goInt 0)
    | .slice (some ⟨_, _, none⟩) _ c => ifb (Nat.blt c BIG) (some (goInt c)) none
    | _ => none
  | some (.array n _) => fun _ => some (goInt n)
  | _ => fun _ => none
noncomputable def cBuiltin (P : Program) (b : Builtin) (ts : Array TypeId) : AHeap → List Value → Option AR :=
  match b, ts[0]? with
  | .append, some t => (fun g σ args => match args with
    | [s, x] => g σ s x
    | _ => none) (cAppend P t ts[1]?)
  | .copy, some t => (fun g σ args => match args with
    | [s, x] => g σ s x
    | _ => none) (cCopy P t)
  | .len, some t => (fun g σ args => match args with
    | [x] => vs1 σ (g σ x)
    | _ => none) (lenOf P t)
  | .cap, some t => (fun g σ args => match args with
    | [x] => vs1 σ (g x)
    | _ => none) (capOf P t)
  | .max, _ => fun σ args => match args with
    | [.int k x, .int _ y] => some (.val (.int k (if y > x then y else x)) σ)
    | _ => none
  | .min, _ => fun σ args => match args with
    | [.int k x, .int _ y] => some (.val (.int k (if y < x then y else x)) σ)
    | _ => none
  | _, _ => fun _ _ => none

/- calls -/
def enterable (P : Program) (f : FuncId) : Bool :=
  match P.funcs[f]? with
  | none => false
  | some fn => !(fn.name == "runtime.NumGoroutine") && fn.body.isSome

def extern (P : Program) (f : FuncId) (σ : AHeap) (args : List Value) : Option AR :=
  bif args.all (closedD 8) then
    match peek P (callFunc f ⟨args⟩) with
    | some (.value v) => bif closedD 8 v then some (.val v σ) else none
    | _ => none
  else none

noncomputable def callA (P : Program) (f : FuncId) : AHeap → List Value → Option AR :=
  ifb (enterable P f) (fun _ args => some (.enter f args)) (extern P f)

noncomputable def callV (P : Program) (σ : AHeap) (f : Value) (args : List Value) : Option AR := match f with
  | .func (.func f) first captured => callA P f σ (first.toList ++ args ++ captured.toList)
  | _ => none

def isPtrD : TypeDesc → Bool
  | .pointer _ => true
  | _ => false
def methodOf (P : Program) (name : String) (t : TypeId) : Option FuncId :=
  match P.info? t, P.underlying t with
  | some i, some d =>
    match i.methods.find? (·.name == name) with
    | some m =>
      match m.path.isEmpty, m.func with
      | true, some (f, pr) => bif isPtrD d == pr then some f else none
      | _, _ => none
    | none => none
  | _, _ => none

noncomputable def callI (P : Program) (name : String) (σ : AHeap) (recv : Value) (args : List Value) : Option AR := match recv with
  | .iface t v => ob (methodOf P name t) fun f => callA P f σ (v :: args)
  | _ => none

noncomputable def cCall (P : Program) (G : Nat) (c : Call) : Tr Value → AHeap → Option AR :=
  match c.callee with
  | .value (.func f) => (fun g as t σ => ob (as t) fun args => g σ args) (callA P f) (avals G c.args.toList)
  | .value f => (fun fv as t σ => ob (fv t) fun f => ob (as t) fun args => callV P σ f args) (aval G f) (avals G c.args.toList)
  | .invoke recv name => (fun fv as t σ => ob (fv t) fun f => ob (as t) fun args => callI P name σ f args) (aval G recv) (avals G c.args.toList)
  | .builtin b => (fun g as t σ => ob (as t) fun args => g σ args) (cBuiltin P b c.argTypes) (avals G c.args.toList)

/- one operation, what is fixed first -/
noncomputable def f1 (x : Tr Value → Option Value) (f : Value → Option Value) (t : Tr Value) (σ : AHeap) : Option AR := ob (x t) fun v => ob (f v) fun r => some (.val r σ)
noncomputable def f2 (x y : Tr Value → Option Value) (f : Value → Value → Option Value) (t : Tr Value) (σ : AHeap) : Option AR := ob (x t) fun u => ob (y t) fun v => ob (f u v) fun r => some (.val r σ)
noncomputable def m1 (x : Tr Value → Option Value) (f : AHeap → Value → Option Value) (t : Tr Value) (σ : AHeap) : Option AR := ob (x t) fun v => ob (f σ v) fun r => some (.val r σ)
noncomputable def m2 (x y : Tr Value → Option Value) (f : AHeap → Value → Value → Option Value) (t : Tr Value) (σ : AHeap) : Option AR := ob (x t) fun u => ob (y t) fun v => ob (f σ u v) fun r => some (.val r σ)
noncomputable def n1 (x : Tr Value → Option Value) (f : AHeap → Value → Option AR) (t : Tr Value) (σ : AHeap) : Option AR := ob (x t) fun v => f σ v
noncomputable def n2 (x y : Tr Value → Option Value) (f : AHeap → Value → Value → Option AR) (t : Tr Value) (σ : AHeap) : Option AR := ob (x t) fun u => ob (y t) fun v => f σ u v
noncomputable def p2 (x y : Tr Value → Option Value) (f : AHeap → Value → Value → Option AHeap) (t : Tr Value) (σ : AHeap) : Option AR := ob (x t) fun u => ob (y t) fun v => ob (f σ u v) fun r => some (.skip r)
noncomputable def p3 (x y z : Tr Value → Option Value) (f : AHeap → Value → Value → Value → Option AHeap) (t : Tr Value) (σ : AHeap) : Option AR := ob (x t) fun u => ob (y t) fun v => ob (z t) fun w => ob (f σ u v w) fun r => some (.skip r)

def nilC : Value → Option Value
  | .pointer (some ⟨b, off, none⟩) => some (.pointer (some ⟨b, off, none⟩))
  | .iface t v => some (.iface t v)
  | .func (.func f) a b => some (.func (.func f) a b)
  | _ => none
noncomputable def pick (c a b : Tr Value → Option Value) (t : Tr Value) (σ : AHeap) : Option AR :=
  ob (c t) fun v => match v with
    | .bool true => ob (a t) fun r => some (.val r σ)
    | .bool false => ob (b t) fun r => some (.val r σ)
    | _ => none
noncomputable def avalO (G : Nat) (x : Option Operand) : Tr Value → Option (Option Value) := match x with
  | none => fun _ => some none
  | some y => (fun g t => ob (g t) fun v => some (some v)) (aval G y)
noncomputable def slop (x : Tr Value → Option Value) (lo hi mx : Tr Value → Option (Option Value)) (f : AHeap → Value → Option Value → Option Value → Option Value → Option Value) (t : Tr Value) (σ : AHeap) : Option AR :=
  ob (x t) fun v => ob (lo t) fun l => ob (hi t) fun h => ob (mx t) fun m => ob (f σ v l h m) fun r => some (.val r σ)
noncomputable def oExtract (i : Nat) : Value → Option Value
  | .tuple vs => nth i vs.toList
  | _ => none
noncomputable def bld (ps : Tr Value → Option (List (Nat × Value))) (f : List (Nat × Value) → Option Value) (t : Tr Value) (σ : AHeap) : Option AR := ob (ps t) fun l => ob (f l) fun r => some (.val r σ)
noncomputable def blds (ps : Tr Value → Option (List (Nat × Value))) (f : AHeap → List (Nat × Value) → Option AR) (t : Tr Value) (σ : AHeap) : Option AR := ob (ps t) fun l => f σ l
noncomputable def alc (z : Option Value) : Tr Value → AHeap → Option AR := match z with
  | some z => fun _ σ => aNew σ z
  | none => fun _ _ => none
noncomputable def mkm (_ : Tr Value) (σ : AHeap) : Option AR := push σ (.map [] 0) fun b σ' => some (.val (.map (some b)) σ')

noncomputable def aop (P : Program) (G : Nat) (o : Op) : Tr Value → AHeap → Option AR :=
  match o with
  | .move x => f1 (aval G x) some
  | .assign x => f1 (aval G x) some
  | .pick c a b => pick (aval G c) (aval G a) (aval G b)
  | .alloc t => alc (zeroOf P t)
  | .box _ x => n1 (aval G x) aNew
  | .build t ps => bld (aParts G ps.toList) (cBuild P t)
  | .buildSlice t len ps => blds (aParts G ps.toList) (cBuildSlice P t len)
  | .load t a => m1 (aval G a) (cLoad P t)
  | .store t a x => p2 (aval G a) (aval G x) (cStore P t)
  | .nilCheck x => f1 (aval G x) nilC
  | .binOp op t x y _ => f2 (aval G x) (aval G y) (cBin P (isC x || isC y) op t)
  | .unOp op _ x => f1 (aval G x) (oUn P op)
  | .convert s d x => m1 (aval G x) (cConvH P s d)
  | .sliceToArrayPointer t x => f1 (aval G x) (cS2a P t)
  | .makeInterface t x => f1 (aval G x) (cIface P t)
  | .makeFunc fn first captured => (fun g t σ => vs1 σ (g t)) (cFunc G fn first captured)
  | .makeMap _ none => mkm
  | .makeSlice t l c => n2 (aval G l) (aval G c) (cMakeSlice P t)
  | .slice t x lo hi mx => slop (aval G x) (avalO G lo) (avalO G hi) (avalO G mx) (cSlice P t)
  | .fieldAddr t x f => f1 (aval G x) (cFieldAddr P t f)
  | .field t x f => f1 (aval G x) (cField P t f)
  | .indexAddr t x i => f2 (aval G x) (aval G i) (cIndexAddr P t)
  | .index t x i => f2 (aval G x) (aval G i) (cIndex P t)
  | .lookup t m k ok => m2 (aval G m) (aval G k) (cLookup P t ok)
  | .mapUpdate t m k x => p3 (aval G m) (aval G k) (aval G x) (cMapUpdate P t)
  | .insert t m k x => p3 (aval G m) (aval G k) (aval G x) (cMapUpdate P t)
  | .extract t i => f1 (aval G t) (oExtract i)
  | .call c => cCall P G c
  | _ => fun _ _ => none
end Go.Eng
