/- The engine, part D: regions, code, calls. -/
import Derived.Test.YtlbhfjnlpfaioaaGreatDoorEngC
namespace Go.Eng
open Go

inductive AEx where
  | normal
  | exit (id : Nat)
  | ret

abbrev RR := Option (Value × AHeap)
abbrev CallF := FuncId → List Value → AHeap → (Value → AHeap → RR) → RR

/-- where a value goes: frames of n places -/
noncomputable def cput (n : Nat) (d : Option Nat) : Value → Tr Value → (Tr Value → RR) → RR :=
  match d with
  | none => fun _ t k => k t
  | some d => ifb (Nat.blt d n && Nat.blt d 65536) (fun v t k => k (Tr.set (pth 16 d) (some v) t)) (fun _ _ _ => none)

/-- what an operation comes to, as a value -/
noncomputable def arV (call : CallF) (σ : AHeap) (k : Value → AHeap → RR) (r : AR) : RR :=
  match r with
  | .val v σ' => ifb (Nat.ble σ.next σ'.next) (k v σ') none
  | .skip σ' => ifb (Nat.ble σ.next σ'.next) (k undef σ') none
  | .enter f args => call f args σ k

noncomputable def execV (f : Tr Value → AHeap → Option AR) (call : CallF) (t : Tr Value) (σ : AHeap) (k : Value → AHeap → RR) : RR :=
  ob (f t σ) (arV call σ k)

noncomputable def guardV (want : Bool) (g : Tr Value → Option Value) (ex : Tr Value → AHeap → (Value → AHeap → RR) → RR) (t : Tr Value) (σ : AHeap) (k : Value → AHeap → RR) : RR :=
  ob (g t) fun v => match v with
    | .bool b => bif b == want then ex t σ k else k undef σ
    | .tuple _ => k undef σ
    | _ => none

noncomputable def stepV (P : Program) (G n : Nat) (call : CallF) (all : List Oper) (o : Oper) : Tr Value → AHeap → (Value → AHeap → RR) → RR :=
  (fun ex => match o.guard with
    | none => ex
    | some (j, want) => match nth j all with
      | none => fun _ _ _ => none
      | some oj => match oj.dst with
        | none => fun _ _ _ => none
        | some d => ifb (Nat.blt d n && Nat.blt d 65536) (guardV want (fget d) ex) (fun _ _ _ => none)) (execV (aop P G o.op) call)

noncomputable def stepK (P : Program) (G n : Nat) (call : CallF) (all : List Oper) (o : Oper) : Tr Value → AHeap → (Tr Value → AHeap → RR) → RR :=
  (fun sv put t σ k => sv t σ (fun v σ' => put v t (fun t' => k t' σ'))) (stepV P G n call all o) (cput n o.dst)

noncomputable def runOps (P : Program) (G n : Nat) (call : CallF) (all : List Oper) (l : List Oper) : Tr Value → AHeap → (Tr Value → AHeap → RR) → RR :=
  List.rec (fun t σ k => k t σ) (fun o _ ih => (fun f t σ k => f t σ (fun t σ => ih t σ k)) (stepK P G n call all o)) l

/- regions that draw their order -/
inductive OKind where
  | pure | read | new | act
  deriving DecidableEq

def okind : Op → OKind
  | .move _ | .assign _ | .pick .. | .build .. | .nilCheck _ | .binOp .. | .unOp .. | .convert .. | .sliceToArrayPointer .. | .makeInterface .. | .makeFunc .. | .fieldAddr .. | .field .. | .indexAddr .. | .index .. | .extract .. => .pure
  | .load .. | .lookup .. | .slice .. => .read
  | .alloc _ | .box .. | .buildSlice .. | .makeMap _ none | .makeSlice .. => .new
  | .call { callee := .builtin .len, .. } | .call { callee := .builtin .cap, .. } | .call { callee := .builtin .max, .. } | .call { callee := .builtin .min, .. } => .read
  | _ => .act

def kindAt (ops : List Oper) (j : Nat) : OKind := match ops[j]? with
  | some o => okind o.op
  | none => .act

def ready (ops : List Oper) (done : List Nat) (j : Nat) : Bool :=
  !done.contains j && (match ops[j]? with
    | none => false
    | some o => o.after.toList.all fun e => !Region.binds .any e || done.contains e.on)

/-- The order in which a region is gone through here: what only computes or reads as soon as it can be, what makes memory as late as it can be. -/
def plan (ops : List Oper) : Nat → List Nat → List Nat
  | 0, done => done.reverse
  | n + 1, done =>
    let rs := (List.range ops.length).filter (ready ops done)
    match rs.find? fun j => kindAt ops j = .pure || kindAt ops j = .read with
    | some j => plan ops n (j :: done)
    | none => match rs.find? fun j => kindAt ops j = .act with
      | some j => plan ops n (j :: done)
      | none => match rs.find? fun j => (List.range ops.length).any fun i => !done.contains i && (kindAt ops i = .act) && (match ops[i]? with
          | some o => o.after.toList.any fun e => e.on == j
          | none => false) with
        | some j => plan ops n (j :: done)
        | none => match rs with
          | j :: _ => plan ops n (j :: done)
          | [] => done.reverse

/-- What stands ahead of each operation, at whatever distance. -/
def ahead (ops : List Oper) : List (List Nat) :=
  ops.foldl (fun acc o => acc ++ [(o.after.toList.filter (Region.binds .any ·)).foldl (fun s e => bif s.contains e.on then s else e.on :: ((acc.getD e.on []).filter (!s.contains ·)) ++ s) []]) []

def opds : Op → List Operand
  | .move x | .assign x | .box _ x | .load _ x | .nilCheck x | .unOp _ _ x | .convert _ _ x | .sliceToArrayPointer _ x | .makeInterface _ x | .fieldAddr _ x _ | .field _ x _ | .extract x _ => [x]
  | .pick c a b => [c, a, b]
  | .build _ ps => ps.toList.map (·.2)
  | .buildSlice _ _ ps => ps.toList.map (·.2)
  | .store _ a x => [a, x]
  | .binOp _ _ x y _ => [x, y]
  | .makeFunc _ f c => f.toList ++ c.toList
  | .makeSlice _ l c => [l, c]
  | .slice _ x lo hi mx => x :: (lo.toList ++ hi.toList ++ mx.toList)
  | .indexAddr _ x i | .index _ x i => [x, i]
  | .lookup _ m k _ => [m, k]
  | .mapUpdate _ m k x | .insert _ m k x => [m, k, x]
  | .call c => (match c.callee with
    | .value f => [f]
    | .invoke r _ => [r]
    | _ => []) ++ c.args.toList
  | _ => []

def slotOf : Operand → Option Nat
  | .tmp t => bif Nat.blt t 65536 then some t else none
  | _ => none

/-- one operation of such a region -/
structure DI where
  j : Nat
  o : Oper
  kd : OKind
  rs : List Nat
  ah : List Nat
  nm : Nat

def readsOf (ops : List Oper) (o : Oper) : List Nat :=
  (match o.guard with
    | some (i, _) => match ops[i]? with
      | some oi => match oi.dst with
        | some d => bif Nat.blt d 65536 then [d] else []
        | none => []
      | none => []
    | none => []) ++ (opds o.op).filterMap slotOf

def mkDI (ops : List Oper) (ah : List (List Nat)) : List Nat → Nat → List DI
  | [], _ => []
  | j :: r, i => match ops[j]? with
    | none => []
    | some o => { j := j, o := o, kd := okind o.op, rs := readsOf ops o, ah := ah.getD j [], nm := i } :: mkDI ops ah r (bif okind o.op = .new then i + 1 else i)

/-- what is asked of the order, of the edges and of the slots -/
def diOk (m : Nat) (done : List DI) (x : DI) (rest : List DI) : Bool :=
  (x.kd != .new || Nat.blt x.nm m && done.all fun y => y.kd != .new || y.nm != x.nm) &&
  (done.all fun y => y.j != x.j) &&
  (x.o.after.toList.all fun e => !Region.binds .any e || done.any fun y => y.j == e.on) &&
  (x.ah.all fun l => x.o.after.toList.any fun e => Region.binds .any e && (e.on == l || done.any fun y => y.j == e.on && y.ah.contains l)) &&
  (x.kd == .pure || x.kd == .new || done.all fun y => y.kd == .pure || y.kd == .read || x.ah.contains y.j) &&
  (x.rs.all fun s => (done.all fun y => y.o.dst != some s || x.ah.contains y.j) && (rest.all fun y => y.o.dst != some s || y.ah.contains x.j)) &&
  (match x.o.dst with
    | none => true
    | some d => done.all fun y => y.o.dst != some d)

def disOk (m : Nat) : List DI → List DI → Bool
  | _, [] => true
  | done, x :: rest => diOk m done x rest && disOk m (done ++ [x]) rest

def newsIn (is : List DI) : Nat := (is.filter fun x => x.kd = .new).length

def drawInfo (ops : List Oper) : List DI :=
  let is := mkDI ops (ahead ops) (plan ops ops.length []) 0
  bif Nat.beq is.length ops.length && disOk (newsIn is) [] is then is else []


def vEq : Nat → Value → Value → Bool
  | 0, _, _ => false
  | n + 1, a, b =>
    match a, b with
    | .int k x, .int k' y => decide (k = k') && x == y
    | .bool x, .bool y => x == y
    | .string x, .string y => decide (x = y)
    | .pointer x, .pointer y => x == y
    | .slice x l c, .slice x' l' c' => x == x' && l == l' && c == c'
    | .map x, .map y => x == y
    | .chan x, .chan y => x == y
    | .nilFunc, .nilFunc | .nilIface, .nilIface => true
    | .iface t x, .iface u y => t == u && vEq n x y
    | .agg x, .agg y => eqL (vEq n) x.toList y.toList
    | .tuple x, .tuple y => eqL (vEq n) x.toList y.toList
    | _, _ => false
where
  eqL (f : Value → Value → Bool) : List Value → List Value → Bool
    | [], [] => true
    | a :: l, b :: r => f a b && eqL f l r
    | _, _ => false

noncomputable def restr (t : Tr Value) (rs : List Nat) : Tr Value := List.rec .nil (fun s _ ih => Option.rec ih (fun v => Tr.set (pth 16 s) (some v) ih) (fget s t)) rs

/-- an operation that only looks -/
noncomputable def stillV (f : Tr Value → AHeap → Option AR) (t : Tr Value) (σ : AHeap) : Option Value := ob (f t σ) fun r => match r with
  | .val v _ => some v
  | _ => none
noncomputable def guardS (want : Bool) (g : Tr Value → Option Value) (ex : Tr Value → AHeap → Option Value) (t : Tr Value) (σ : AHeap) : Option Value :=
  ob (g t) fun v => match v with
    | .bool b => bif b == want then ex t σ else some undef
    | .tuple _ => some undef
    | _ => none
noncomputable def stillS (P : Program) (G n : Nat) (all : List Oper) (o : Oper) : Tr Value → AHeap → Option Value :=
  (fun ex => match o.guard with
    | none => ex
    | some (j, want) => match nth j all with
      | none => fun _ _ => none
      | some oj => match oj.dst with
        | none => fun _ _ => none
        | some d => ifb (Nat.blt d n && Nat.blt d 65536) (guardS want (fget d) ex) (fun _ _ => none)) (stillV (aop P G o.op))

/-- what has been read -/
structure RdE where
  x : DI
  t : Tr Value
  v : Value

noncomputable def recheck (P : Program) (G n : Nat) (all : List Oper) (ah : List Nat) (σ : AHeap) (rd : List RdE) : Bool :=
  List.rec true (fun e _ ih => ifb (ah.contains e.x.j) ih (match stillS P G n all e.x.o e.t σ with
    | some v => ifb (vEq 6 v e.v) ih false
    | none => false)) rd

/-- the names of what is made later are no names yet -/
noncomputable def laterFree (b0 : Nat) (σ : AHeap) (l : List DI) : Bool :=
  List.rec true (fun y _ ih => match y.kd with
    | .new => ifb (Option.isNone (σ.get (b0 + y.nm))) ih false
    | _ => ih) l

def emptyH (b : Nat) : AHeap := { t := .nil, next := b }

noncomputable def drawGo (P : Program) (G n : Nat) (call : CallF) (all : List Oper) (b0 : Nat) (is : List DI) : Tr Value → AHeap → List RdE → (Tr Value → AHeap → RR) → RR :=
  List.rec (fun t σ _ k => k t σ)
    (fun x rest ih => match x.kd with
      | .pure => fun t σ rd k => ob (stillS P G n all x.o (restr t x.rs) (emptyH 0)) fun v => cput n x.o.dst v t fun t' => ih t' σ rd k
      | .read => fun t σ rd k => (fun tr => ob (stillS P G n all x.o tr σ) fun v => cput n x.o.dst v t fun t' => ih t' σ (⟨x, tr, v⟩ :: rd) k) (restr t x.rs)
      | .new => fun t σ rd k => stepV P G n call all x.o (restr t x.rs) (emptyH (b0 + x.nm)) fun v σe =>
          ifb (Nat.ble σe.next (b0 + x.nm + 1)) (cput n x.o.dst v t fun t' => ih t' (σ.set (b0 + x.nm) (σe.get (b0 + x.nm))) rd k) none
      | .act => fun t σ rd k => stepV P G n call all x.o (restr t x.rs) σ fun v σ' =>
          ifb (laterFree b0 σ' rest) (ifb (recheck P G n all x.ah σ' rd) (cput n x.o.dst v t fun t' => ih t' σ' rd k) none) none) is

noncomputable def drawAll (P : Program) (G n : Nat) (call : CallF) (all : List Oper) (is : List DI) (t : Tr Value) (σ : AHeap) (k : Tr Value → AHeap → RR) : RR :=
  (fun m => ifb (laterFree σ.next σ is) (drawGo P G n call all σ.next is t { t := σ.t, next := σ.next + m } [] k) none) (newsIn is)
noncomputable def drawK (P : Program) (G n : Nat) (call : CallF) (all : List Oper) : Tr Value → AHeap → (Tr Value → AHeap → RR) → RR :=
  (fun is => ifb (Nat.beq is.length all.length) (drawAll P G n call all is) (fun _ _ _ => none)) (drawInfo all)

noncomputable def loopK (body : Tr Value → AHeap → (AEx → Tr Value → AHeap → RR) → RR) (L : Nat) : Tr Value → AHeap → (AEx → Tr Value → AHeap → RR) → RR :=
  Nat.rec (fun _ _ _ => none) (fun _ ih t σ k => body t σ (fun e t σ => AEx.rec (ih t σ k) (fun i => k (.exit i) t σ) (k .ret t σ) e)) L

noncomputable def condK (g : Tr Value → Option Value) (a b : Tr Value → AHeap → (AEx → Tr Value → AHeap → RR) → RR) (t : Tr Value) (σ : AHeap) (k : AEx → Tr Value → AHeap → RR) : RR :=
  ob (g t) fun v => match v with
    | .bool true => a t σ k
    | .bool false => b t σ k
    | _ => none

noncomputable def codeK (P : Program) (G n : Nat) (call : CallF) (L : Nat) (c : Code) : Tr Value → AHeap → (AEx → Tr Value → AHeap → RR) → RR :=
  Code.rec (motive := fun _ => Tr Value → AHeap → (AEx → Tr Value → AHeap → RR) → RR)
    (fun t σ k => k .normal t σ)
    (fun _ ops d => (fun f t σ k => f t σ (fun t σ => k .normal t σ)) (ifb d (drawK P G n call ops.toList) (runOps P G n call ops.toList ops.toList)))
    (fun _ _ ia ib t σ k => ia t σ (fun e t σ => AEx.rec (ib t σ k) (fun i => k (.exit i) t σ) (k .ret t σ) e))
    (fun c _ _ ia ib => condK (aval G c) ia ib)
    (fun id _ ih t σ k => ih t σ (fun e t σ => AEx.rec (k .normal t σ) (fun i => ifb (Nat.beq i id) (k .normal t σ) (k (.exit i) t σ)) (k .ret t σ) e))
    (fun _ ih => loopK ih L)
    (fun _ _ _ _ _ _ _ _ _ => none)
    (fun id t σ k => k (.exit id) t σ)
    (fun _ ih => ih)
    (fun _ t σ k => k .normal t σ)
    (fun _ _ _ _ => none)
    (fun t σ k => k .ret t σ)
    (fun _ _ _ _ => none) c

noncomputable def initFr (l : List Value) : Nat → Tr Value → Tr Value :=
  List.rec (fun _ t => t) (fun v _ ih i t => ih (i + 1) (Tr.set (pth 16 i) (some v) t)) l

noncomputable def resultsK (P : Program) (l : List ResultVar) : Tr Value → AHeap → Option (List Value) :=
  List.rec (fun _ _ => some []) (fun r _ ih => match r with
    | .tmp d => ifb (Nat.blt d 65536) (fun t σ => ob (fget d t) fun v => ob (ih t σ) fun l => some (v :: l)) (fun _ _ => none)
    | .cell d ty => ifb (Nat.blt d 65536) ((fun ld t σ => ob (fget d t) fun p => ob (ld σ p) fun v => ob (ih t σ) fun l => some (v :: l)) (cLoad P ty)) (fun _ _ => none)) l

def tup : List Value → Value
  | [v] => v
  | l => .tuple ⟨l⟩

noncomputable def funcK (n : Nat) (body : Tr Value → AHeap → (AEx → Tr Value → AHeap → RR) → RR) (res : Tr Value → AHeap → Option (List Value)) (args : List Value) (σ : AHeap) (k : Value → AHeap → RR) : RR :=
  ifb (Nat.ble args.length n) (body (initFr args 0 .nil) σ (fun e t σ => AEx.rec (ob (res t σ) fun vs => k (tup vs) σ) (fun _ => none) (ob (res t σ) fun vs => k (tup vs) σ) e)) none

abbrev Orc := FuncId → Option (List Value → AHeap → Option (Value × AHeap))

noncomputable def evalF (P : Program) (G : Nat) (orc : Orc) (L N : Nat) : CallF :=
  Nat.rec (fun _ _ _ _ => none) (fun _ ih f =>
    match orc f with
    | some h => fun args σ k => ob (h args σ) fun r => k r.1 r.2
    | none =>
      match P.funcs[f]? with
      | none => fun _ _ _ => none
      | some fn =>
        match fn.body with
        | none => fun _ _ _ => none
        | some c => ifb (Nat.blt fn.ntmps 65536) (funcK fn.ntmps (codeK P G fn.ntmps ih L c) (resultsK P fn.results.toList)) (fun _ _ _ => none)) N

noncomputable def evalTop (P : Program) (G : Nat) (orc : Orc) (L N : Nat) (f : FuncId) (args : List Value) (σ : AHeap) : RR := evalF P G orc L N f args σ (fun v σ => some (v, σ))
end Go.Eng
