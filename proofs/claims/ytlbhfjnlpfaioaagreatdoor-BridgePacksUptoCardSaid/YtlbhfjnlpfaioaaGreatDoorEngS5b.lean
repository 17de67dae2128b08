/- The engine: the maps. -/
import Derived.Test.YtlbhfjnlpfaioaaGreatDoorEngS5
namespace Go.Eng
open Go
variable {P : Program}

theorem keyOk_ok {kt : TypeId} {e : Bool} {k : Value} (h : keyOk P kt e k = true) (w : World) : closedD 8 k = true ∧ (Instr.checkKey e 10000 kt k).run P w = .ok () w := by
  unfold keyOk at h
  cases hc : closedD 8 k
  · rw [hc] at h; cases h
  · rw [hc, ifb_true] at h
    split at h
    · rename_i u hp
      exact ⟨rfl, peek_run hp w⟩
    · cases h

theorem sameNow_eq {d : TypeDesc} {kt : TypeId} (hd : P.underlying kt = some d) {k x : Value} {b b' : Bool} (h : Instr.sameNow d k x = some b) {n : Nat} (h' : cEq P n kt k x = some b') : b = b' := by
  cases n with
  | zero => cases h'
  | succ n =>
    have h'' : (match P.underlying kt with
      | some .bool => eqBool
      | some (.int _) => eqInt
      | some .string => eqStr
      | some (.struct fields) => ifb (P.stoodInHeld kt) (fun _ _ => none) (fun x y => ag x fun xs => ag y fun ys => eqStruct P (cEq P n) fields.toList xs ys)
      | some (.array len elem) => match P.info? elem, P.underlying elem with
        | some i, some d => ifb (isAggD d) (fun _ _ => none) (fun x y => ag x fun xs => ag y fun ys => eqElems (cEq P n elem) i.size len 0 xs ys)
        | _, _ => fun _ _ => none
      | _ => fun _ _ => none) k x = some b' := h'
    rw [hd] at h''
    unfold Instr.sameNow at h
    split at h
    · rename_i k0 k1 a k2 a'
      have h2 : eqInt (.int k1 a) (.int k2 a') = some b' := h''
      by_cases e : k1 = k2
      · simp [e] at h
        subst e
        unfold eqInt at h2
        split at h2
        · rename_i e1 e2; cases e1; cases e2
          simp [ifb] at h2
          subst h; subst h2
          exact natBeq _ _
        · rename_i e1 e2; cases e1; cases e2
          simp [ifb] at h2
          subst h; subst h2; rfl
        · cases h2
      · simp [e] at h
    · have h2 : eqStr _ _ = some b' := h''
      simp [eqStr] at h2
      simp at h
      subst h; subst h2; rfl
    · have h2 : eqBool _ _ = some b' := h''
      simp [eqBool] at h2
      simp at h
      subst h; subst h2; rfl
    · cases h

/-- what a search of a map says, in the model -/
inductive FoundR (ε : Env) : Option (Nat × Value × Nat) → Option (Nat × Value) → Prop
  | none : FoundR ε none none
  | some {i n : Nat} {v cv : Value} (h : Rep ε v cv) : FoundR ε (some (i, v, n)) (some (i, cv))

theorem findAsking_ok {ε : Env} {kt : TypeId} {k : Value} : ∀ (es : List (Value × Value × Nat)) (es' : List MapEntry) (i : Nat) (r : Option (Nat × Value × Nat)), RepE ε es es' → mapFind (cEq P 20 kt) k es i = some r → ∀ w,
    ∃ r', FoundR ε r r' ∧ (Instr.findAsking kt k es' i).run P w = .ok r' w ∧ ∀ d, P.underlying kt = some d → Instr.findNow d k es' i = none ∨ Instr.findNow d k es' i = some r'
  | [], _, i, r, .nil, h, w => by
    obtain rfl := Option.some.inj h
    exact ⟨none, .none, by simp [Instr.findAsking], fun d _ => .inr (by simp [Instr.findNow])⟩
  | (k0, v0, n0) :: es, _, i, r, .cons (k' := k') (v' := v') hk hv ht, h, w => by
    obtain ⟨h1, h⟩ := ifb_eq_some h
    obtain ⟨b, h2, h⟩ := ob_eq_some h
    have hk' : k' = k0 := closed_same h1 hk
    subst hk'
    have he := cEq_ok (P := P) 20 kt k k' b h2
    have heq : (Op.equal kt k k').run P w = .ok b w := by
      have := he (Op.maxDepth - 20) w
      have e : 20 + (Op.maxDepth - 20) = Op.maxDepth := by decide
      rw [e] at this
      simpa [Op.equal] using this
    cases b with
    | true =>
      rw [ifb_true] at h
      obtain rfl := Option.some.inj h
      refine ⟨some (i, v'), .some hv, by simp [Instr.findAsking, heq], fun d hd => ?_⟩
      cases hs : Instr.sameNow d k k' with
      | none => left; simp [Instr.findNow, hs]
      | some b' =>
        have := sameNow_eq hd hs h2
        subst this
        right; simp [Instr.findNow, hs]
    | false =>
      rw [ifb_false] at h
      obtain ⟨r', e1, e2, e3⟩ := findAsking_ok es _ (i + 1) r ht h w
      refine ⟨r', e1, by simp [Instr.findAsking, heq, e2], fun d hd => ?_⟩
      cases hs : Instr.sameNow d k k' with
      | none => left; simp [Instr.findNow, hs]
      | some b' =>
        have := sameNow_eq hd hs h2
        subst this
        rcases e3 d hd with e | e
        · left; simp [Instr.findNow, hs, e]
        · right; simp [Instr.findNow, hs, e]

theorem findKey_ok {ε : Env} {kt : TypeId} {d : TypeDesc} (hd : P.underlying kt = some d) {k : Value} {es : List (Value × Value × Nat)} {es' : List MapEntry} {r : Option (Nat × Value × Nat)} (he : RepE ε es es') (h : mapFind (cEq P 20 kt) k es 0 = some r) (w : World) :
    ∃ r', FoundR ε r r' ∧ (Instr.findKey kt k es').run P w = .ok r' w := by
  obtain ⟨r', e1, e2, e3⟩ := findAsking_ok es es' 0 r he h w
  refine ⟨r', e1, ?_⟩
  rcases e3 d hd with e | e
  · simp [Instr.findKey, run_underlying hd, e, e2]
  · simp [Instr.findKey, run_underlying hd, e]

theorem RepE.len {ε : Env} : ∀ {l : List (Value × Value × Nat)} {l' : List MapEntry}, RepE ε l l' → l'.length = l.length
  | _, _, .nil => rfl
  | _, _, .cons _ _ t => by simp [RepE.len t]

theorem RepE.append {ε : Env} : ∀ {a a' b b'}, RepE ε a a' → RepE ε b b' → RepE ε (a ++ b) (a' ++ b')
  | _, _, _, _, .nil, h => h
  | _, _, _, _, .cons h k t, q => .cons h k (RepE.append t q)

theorem under_of_check {kt : TypeId} {e : Bool} {k : Value} {n : Nat} {w : World} (h : (Instr.checkKey e (n + 1) kt k).run P w = .ok () w) : ∃ d, P.underlying kt = some d := by
  cases hu : P.underlying kt with
  | some d => exact ⟨d, rfl⟩
  | none => simp [Instr.checkKey, underlying, hu, stuck] at h
theorem under_of_key {kt : TypeId} {e : Bool} {k : Value} (h : keyOk P kt e k = true) : ∃ d, P.underlying kt = some d :=
  under_of_check (n := 9999) (keyOk_ok (P := P) h default).2

theorem cLookup_ok {ε : Env} {σ : AHeap} {w : World} (he : Emb ε σ.get w) {t : TypeId} {ok : Bool} {m k cm ck v : Value} (h : cLookup P t ok σ m k = some v) (hm : Rep ε m cm) (hk : Rep ε k ck) :
    ∃ cv, (Instr.lookup t cm ck ok).run P w = .ok cv w ∧ Rep ε v cv := by
  unfold cLookup at h
  generalize ht : P.underlying t = ot at h
  rcases ot with _ | td
  · cases h
  cases td <;> try (cases h; done)
  rename_i kt et
  dsimp only at h
  generalize hz : zeroOf P et = oz at h
  rcases oz with _ | z
  · cases h
  dsimp only at h
  have key : ∀ (es : List (Value × Value × Nat)) (es' : Array MapEntry), RepE ε es es'.toList → (ifb (keyOk P kt es.isEmpty k) (ob (mapFind (cEq P 20 kt) k es 0) fun r => match r with
    | some (_, v, _) => some (ifb ok (.tuple ⟨[v, .bool true]⟩) v)
    | none => some (ifb ok (.tuple ⟨[z, .bool false]⟩) z)) none) = some v →
      ck = k ∧ (Instr.checkKey es'.isEmpty 10000 kt k).run P w = .ok () w ∧ ∃ r', (Instr.findKey kt k es'.toList).run P w = .ok r' w ∧
        ∃ cv, Rep ε v cv ∧ (match r' with
          | some (_, x) => cv = if ok then .tuple #[x, .bool true] else x
          | none => cv = if ok then .tuple #[z, .bool false] else z) := by
    intro es es' hes h
    obtain ⟨h1, h⟩ := ifb_eq_some h
    obtain ⟨r, h2, h⟩ := ob_eq_some h
    obtain ⟨hc, hrun⟩ := keyOk_ok (P := P) h1 w
    have hck : ck = k := closed_same hc hk
    obtain ⟨d, hd⟩ := under_of_key h1
    obtain ⟨r', e1, e2⟩ := findKey_ok hd hes h2 w
    have hemp : es'.isEmpty = es.isEmpty := by
      have := hes.len
      cases es with
      | nil => simp at this; simp [this]
      | cons _ _ => simp at this; simp [Array.isEmpty, this]
    rw [hemp]
    refine ⟨hck, hrun, r', e2, ?_⟩
    cases e1 with
    | none =>
      obtain rfl := Option.some.inj h
      cases ok
      · exact ⟨z, zero_rep hz, by simp⟩
      · exact ⟨.tuple #[z, .bool false], .tuple (.cons (zero_rep hz) (.cons (.bool _) .nil)), by simp⟩
    | some hv =>
      rename_i i n u cu
      obtain rfl := Option.some.inj h
      cases ok
      · exact ⟨cu, hv, by simp⟩
      · exact ⟨.tuple #[cu, .bool true], .tuple (.cons hv (.cons (.bool _) .nil)), by simp⟩
  unfold lkp mapOf at h
  split at h
  · cases hm
    obtain ⟨rfl, q1, r', q2, cv, q3, q4⟩ := key [] #[] .nil h
    refine ⟨cv, ?_, q3⟩
    cases r' with
    | none =>
      simp at q4
      subst q4
      have q1 : (Instr.checkKey true 10000 kt ck).run P w = .ok () w := q1
      have q2 : (Instr.findKey kt ck []).run P w = .ok none w := q2
      simp [Instr.lookup, run_underlying ht, q1, q2, (run_zeroValue hz w).1]
    | some p =>
      simp at q4
      subst q4
      have q1 : (Instr.checkKey true 10000 kt ck).run P w = .ok () w := q1
      have q2 : (Instr.findKey kt ck []).run P w = .ok (some p) w := q2
      simp [Instr.lookup, run_underlying ht, q1, q2]
  · rename_i b
    obtain ⟨es, clock, hb, h2⟩ := mapIn_some h
    obtain ⟨a, m', es', h3, h4, h5⟩ := he.ok _ _ hb
    cases hm with
    | map hm' =>
      rw [h3] at hm'
      obtain ⟨rfl, _⟩ : a = _ ∧ _ := by simpa using hm'
      obtain ⟨rfl, q1, r', q2, cv, q3, q4⟩ := key es es' h5 h2
      refine ⟨cv, ?_, q3⟩
      cases r' with
      | none =>
        simp at q4
        subst q4
        simp [Instr.lookup, run_underlying ht, run_getObj_map' h4, q1, q2, (run_zeroValue hz w).1]
      | some p =>
        simp at q4
        subst q4
        simp [Instr.lookup, run_underlying ht, run_getObj_map' h4, q1, q2]
  · cases h

theorem cMapUpdate_ok {ε : Env} {σ σ' : AHeap} {w : World} (he : Emb ε σ.get w) {t : TypeId} {m k v cm ck cv : Value} (h : cMapUpdate P t σ m k v = some σ') (hm : Rep ε m cm) (hk : Rep ε k ck) (hv : Rep ε v cv) :
    ∃ w', (Instr.mapUpdate t cm ck cv).run P w = .ok () w' ∧ Step σ.next σ'.next ε σ.get w ε σ'.get w' := by
  unfold cMapUpdate at h
  generalize ht : P.underlying t = ot at h
  rcases ot with _ | td
  · cases h
  cases td <;> try (cases h; done)
  rename_i kt et
  dsimp only at h
  obtain ⟨b, rfl, h⟩ := mpt_some h
  obtain ⟨es, clock, hb, h⟩ := mapIn_some h
  obtain ⟨h1, h⟩ := ifb_eq_some h
  obtain ⟨r, h2, h⟩ := ob_eq_some h
  cases r with
  | some _ => cases h
  | none =>
    obtain rfl := Option.some.inj h
    obtain ⟨a, m', es', h3, h4, h5⟩ := he.ok _ _ hb
    obtain ⟨hc, hrun⟩ := keyOk_ok (P := P) h1 w
    obtain rfl : ck = k := closed_same hc hk
    obtain ⟨d, hd⟩ := under_of_key h1
    obtain ⟨r', e1, e2⟩ := findKey_ok hd h5 h2 w
    cases e1
    cases hm with
    | map hm' =>
      rw [h3] at hm'
      obtain ⟨rfl, _⟩ : a = _ ∧ _ := by simpa using hm'
      have hlt : a.block < w.heap.size := (he.ok _ _ hb).lt h3
      refine ⟨{ w with heap := w.heap.setIfInBounds a.block (.map (es'.push { key := ck, val := cv, born := clock }) (clock + 1)) }, ?_, ?_⟩
      · simp [Instr.mapUpdate, run_underlying ht, run_getObj_map' h4, hrun, e2, setObj, Sem.run, h4]
      · rw [AHeap.get_set _ _]
        refine Step.turn σ.next he hb rfl h3 rfl rfl rfl (by simp) (fun k' hk' => by simp [Ne.symm hk']) ?_ rfl
        refine ⟨a, m', es'.push { key := ck, val := cv, born := clock }, h3, by simp [hlt], ?_⟩
        simpa using h5.append (.cons hk hv .nil)
end Go.Eng
