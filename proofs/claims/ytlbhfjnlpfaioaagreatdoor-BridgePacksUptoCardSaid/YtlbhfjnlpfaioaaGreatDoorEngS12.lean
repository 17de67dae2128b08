/- The engine: regions that draw, from the check and the run to what is asked. -/
import Derived.Test.YtlbhfjnlpfaioaaGreatDoorEngS11
namespace Go.Eng
open Go
variable {P : Program}

theorem cput_put {n : Nat} {d : Option Nat} {v : Value} {t : Tr Value} {k : Tr Value → RR} {r : Value × AHeap} (h : cput n d v t k = some r) : k (putT t d v) = some r ∧ ∀ i, d = some i → i < n ∧ i < 65536 := by
  cases d with
  | none => exact ⟨h, fun i hi => by cases hi⟩
  | some d =>
    have h' : ifb (Nat.blt d n && Nat.blt d 65536) (fun v t (k : Tr Value → RR) => k (Tr.set (pth 16 d) (some v) t)) (fun _ _ _ => none) v t k = some r := h
    cases hc : (Nat.blt d n && Nat.blt d 65536)
    · rw [hc] at h'; cases h'
    · rw [hc, ifb_true] at h'
      simp only [Bool.and_eq_true, Nat.blt_eq] at hc
      exact ⟨h', fun i hi => by cases hi; exact hc⟩

theorem laterFree_ok {b0 : Nat} {σ : AHeap} : ∀ (l : List DI), laterFree b0 σ l = true → ∀ y ∈ l, y.kd = .new → σ.get (b0 + y.nm) = none
  | [], _, _, h, _ => by cases h
  | x :: l, h, y, hy, ky => by
    have h' : (match x.kd with
      | .new => ifb (Option.isNone (σ.get (b0 + x.nm))) (laterFree b0 σ l) false
      | _ => laterFree b0 σ l) = true := h
    have both : (x.kd = .new → σ.get (b0 + x.nm) = none) ∧ laterFree b0 σ l = true := by
      cases hk : x.kd with
      | new =>
        rw [hk] at h'
        dsimp only at h'
        cases hn : Option.isNone (σ.get (b0 + x.nm))
        · rw [hn] at h'; cases h'
        · rw [hn] at h'; exact ⟨fun _ => by simpa using hn, h'⟩
      | pure => rw [hk] at h'; exact ⟨(fun q => nomatch q), h'⟩
      | read => rw [hk] at h'; exact ⟨(fun q => nomatch q), h'⟩
      | act => rw [hk] at h'; exact ⟨(fun q => nomatch q), h'⟩
    cases hy with
    | head => exact both.1 ky
    | tail _ hy => exact laterFree_ok l both.2 y hy ky

theorem recheck_ok {G n : Nat} {all : List Oper} {ah : List Nat} {σ : AHeap} : ∀ (rd : List RdE), recheck P G n all ah σ rd = true → ∀ e ∈ rd, e.x.j ∉ ah → stillS P G n all e.x.o e.t σ = some e.v
  | [], _, _, h, _ => by cases h
  | x :: l, h, y, hy, hj => by
    have h' : ifb (ah.contains x.x.j) (recheck P G n all ah σ l) (match stillS P G n all x.x.o x.t σ with
      | some v => ifb (vEq 6 v x.v) (recheck P G n all ah σ l) false
      | none => false) = true := h
    have both : (x.x.j ∉ ah → stillS P G n all x.x.o x.t σ = some x.v) ∧ recheck P G n all ah σ l = true := by
      cases hc : ah.contains x.x.j with
      | true =>
        rw [hc] at h'
        exact ⟨fun q => absurd (by simpa using hc) q, h'⟩
      | false =>
        rw [hc, ifb_false] at h'
        cases hs : stillS P G n all x.x.o x.t σ with
        | none => rw [hs] at h'; cases h'
        | some v =>
          rw [hs] at h'
          dsimp only at h'
          cases hv : vEq 6 v x.v
          · rw [hv] at h'; cases h'
          · rw [hv] at h'; exact ⟨fun _ => by rw [vEq_eq 6 _ _ hv], h'⟩
    cases hy with
    | head => exact both.1 hj
    | tail _ hy => exact recheck_ok l both.2 y hy hj

theorem drawGo_ok {G n : Nat} {call : CallF} (hcall : CallsOk P G call) {ops : Array Oper} {b0 : Nat} {t0 : Tr Value} : ∀ (is : List DI) (A : List Rec) (t : Tr Value) (σ : AHeap) (rd : List RdE) (k : Tr Value → AHeap → RR) (res : Value × AHeap),
    drawGo P G n call ops.toList b0 is t σ rd k = some res → t = tOf t0 A → (∀ y ∈ A, y.x.kd = .read → ∃ e ∈ rd, e.x = y.x ∧ e.t = y.tr ∧ e.v = y.v) →
    ∃ B σN, Chain σ B σN ∧ B.map Rec.x = is ∧ (∀ B1 r B2, B = B1 ++ r :: B2 → RecOk P G n ops b0 t0 (A ++ B1) r B2) ∧ k (tOf t0 (A ++ B)) σN = some res
  | [], A, t, σ, rd, k, res, h, ht, _ => ⟨[], σ, .nil, rfl, fun B1 r B2 e => by simp at e, by rw [List.append_nil, ← ht]; exact h⟩
  | x :: rest, A, t, σ, rd, k, res, h, ht, hrd => by
    -- from the run of the rest
    have fin : ∀ (r : Rec) (rd' : List RdE), r.x = x → r.tr = restr t x.rs → r.σ = σ → (∀ i, x.o.dst = some i → i < n ∧ i < 65536) → (∀ y ∈ A ++ [r], y.x.kd = .read → ∃ e ∈ rd', e.x = y.x ∧ e.t = y.tr ∧ e.v = y.v) →
        (∀ B : List Rec, B.map Rec.x = rest → RecOk P G n ops b0 t0 A r B) → drawGo P G n call ops.toList b0 rest (putT t x.o.dst r.v) r.σ' rd' k = some res →
        ∃ B σN, Chain σ B σN ∧ B.map Rec.x = x :: rest ∧ (∀ B1 r B2, B = B1 ++ r :: B2 → RecOk P G n ops b0 t0 (A ++ B1) r B2) ∧ k (tOf t0 (A ++ B)) σN = some res := by
      intro r rd' hx htr hσ hd hrd' hok hgo
      obtain ⟨B, σN, h1, h2, h3, h4⟩ := drawGo_ok hcall rest (A ++ [r]) _ _ rd' k res hgo (by rw [tOf_snoc, hx, ht]) hrd'
      refine ⟨r :: B, σN, hσ ▸ .cons h1, by simp [hx, h2], fun B1 r' B2 e => ?_, by simpa using h4⟩
      cases B1 with
      | nil =>
        obtain ⟨rfl, rfl⟩ := List.cons.inj e
        simpa using hok B h2
      | cons z B1 =>
        obtain ⟨rfl, e2⟩ := List.cons.inj e
        simpa using h3 B1 r' B2 e2
    have hrdA : ∀ (r : Rec), r.x = x → x.kd ≠ .read → ∀ y ∈ A ++ [r], y.x.kd = .read → ∃ e ∈ rd, e.x = y.x ∧ e.t = y.tr ∧ e.v = y.v := by
      intro r hx hk y hy ky
      simp only [List.mem_append, List.mem_singleton] at hy
      rcases hy with hy | rfl
      · exact hrd y hy ky
      · rw [hx] at ky; exact absurd ky hk
    cases hk : x.kd with
    | pure =>
      have h' : (ob (stillS P G n ops.toList x.o (restr t x.rs) (emptyH 0)) fun v => cput n x.o.dst v t fun t' => drawGo P G n call ops.toList b0 rest t' σ rd k) = some res := by
        have := h
        unfold drawGo at this
        simp only [hk] at this
        exact this
      obtain ⟨v, h1, h2⟩ := ob_eq_some h'
      obtain ⟨h3, h4⟩ := cput_put h2
      exact fin ⟨x, restr t x.rs, v, σ, σ, none⟩ rd rfl rfl rfl h4 (hrdA _ rfl (by rw [hk]; decide)) (fun B hB => ⟨by rw [ht], h4, by simp only [hk]; exact ⟨trivial, h1⟩⟩) h3
    | read =>
      have h' : (ob (stillS P G n ops.toList x.o (restr t x.rs) σ) fun v => cput n x.o.dst v t fun t' => drawGo P G n call ops.toList b0 rest t' σ (⟨x, restr t x.rs, v⟩ :: rd) k) = some res := by
        have := h
        unfold drawGo at this
        simp only [hk] at this
        exact this
      obtain ⟨v, h1, h2⟩ := ob_eq_some h'
      obtain ⟨h3, h4⟩ := cput_put h2
      refine fin ⟨x, restr t x.rs, v, σ, σ, none⟩ (⟨x, restr t x.rs, v⟩ :: rd) rfl rfl rfl h4 (fun y hy ky => ?_) (fun B hB => ⟨by rw [ht], h4, by simp only [hk]; exact ⟨trivial, h1⟩⟩) h3
      simp only [List.mem_append, List.mem_singleton] at hy
      rcases hy with hy | rfl
      · obtain ⟨e, q1, q2⟩ := hrd y hy ky; exact ⟨e, .tail _ q1, q2⟩
      · exact ⟨_, .head _, rfl, rfl, rfl⟩
    | new =>
      have h' : (stepV P G n call ops.toList x.o (restr t x.rs) (emptyH (b0 + x.nm)) fun v σe =>
          ifb (Nat.ble σe.next (b0 + x.nm + 1)) (cput n x.o.dst v t fun t' => drawGo P G n call ops.toList b0 rest t' (σ.set (b0 + x.nm) (σe.get (b0 + x.nm))) rd k) none) = some res := by
        have := h
        unfold drawGo at this
        simp only [hk] at this
        exact this
      obtain ⟨v, σe, h1, h2⟩ := stepV_ok (P := P) hcall h'
      obtain ⟨h3, h4⟩ := ifb_eq_some h1
      obtain ⟨h5, h6⟩ := cput_put h4
      exact fin ⟨x, restr t x.rs, v, σ, σ.set (b0 + x.nm) (σe.get (b0 + x.nm)), σe.get (b0 + x.nm)⟩ rd rfl rfl rfl h6 (hrdA _ rfl (by rw [hk]; decide)) (fun B hB => ⟨by rw [ht], h6, by simp only [hk]; exact ⟨⟨σe, h2, Nat.le_of_ble_eq_true h3, rfl⟩, trivial⟩⟩) h5
    | act =>
      have h' : (stepV P G n call ops.toList x.o (restr t x.rs) σ fun v σ' =>
          ifb (laterFree b0 σ' rest) (ifb (recheck P G n ops.toList x.ah σ' rd) (cput n x.o.dst v t fun t' => drawGo P G n call ops.toList b0 rest t' σ' rd k) none) none) = some res := by
        have := h
        unfold drawGo at this
        simp only [hk] at this
        exact this
      obtain ⟨v, σ', h1, h2⟩ := stepV_ok (P := P) hcall h'
      obtain ⟨h3, h4⟩ := ifb_eq_some h1
      obtain ⟨h5, h6⟩ := ifb_eq_some h4
      obtain ⟨h7, h8⟩ := cput_put h6
      refine fin ⟨x, restr t x.rs, v, σ, σ', none⟩ rd rfl rfl rfl h8 (hrdA _ rfl (by rw [hk]; decide)) (fun B hB => ⟨by rw [ht], h8, ?_⟩) h7
      simp only [hk]
      refine ⟨h2, fun y hy ky => laterFree_ok rest h3 y.x (by rw [← hB]; exact List.mem_map_of_mem hy) ky, fun y hy ky hj => ?_⟩
      obtain ⟨e, q1, q2, q3, q4⟩ := hrd y hy ky
      have := recheck_ok rd h5 e q1 (by rw [q2]; exact hj)
      rw [q2, q3, q4] at this
      exact this

theorem disOk_split {m : Nat} : ∀ (is D D1 : List DI) (x : DI) (D2 : List DI), disOk m D is = true → is = D1 ++ x :: D2 → diOk m (D ++ D1) x D2 = true
  | [], D, D1, x, D2, _, e => by simp at e
  | z :: is, D, D1, x, D2, h, e => by
    have h' : (diOk m D z is && disOk m (D ++ [z]) is) = true := h
    rw [Bool.and_eq_true] at h'
    cases D1 with
    | nil =>
      obtain ⟨rfl, rfl⟩ := List.cons.inj e
      simpa using h'.1
    | cons y D1 =>
      obtain ⟨rfl, e2⟩ := List.cons.inj e
      have := disOk_split is (D ++ [z]) D1 x D2 h'.2 e2
      simpa using this

theorem mkDI_ok {ops : Array Oper} {ah : List (List Nat)} : ∀ (l : List Nat) (i : Nat), ∀ x ∈ mkDI ops.toList ah l i, ops[x.j]? = some x.o ∧ x.kd = okind x.o.op ∧ ∀ s ∈ x.rs, s < 65536
  | [], _, x, h => by cases h
  | j :: l, i, x, h => by
    unfold mkDI at h
    split at h
    · cases h
    · rename_i o ho
      cases h with
      | head =>
        refine ⟨by simpa using ho, rfl, fun s hs => ?_⟩
        have slot : ∀ y, slotOf y = some s → s < 65536 := fun y hy => by
          cases y <;> simp [slotOf] at hy
          rename_i t
          cases hb : Nat.blt t 65536
          · rw [hb] at hy; simp at hy
          · rw [hb] at hy; simp at hy; rw [Nat.blt_eq] at hb; omega
        unfold readsOf at hs
        rcases List.mem_append.1 hs with q | q
        · split at q
          · split at q
            · split at q
              · rename_i d _
                cases hb : Nat.blt d 65536
                · rw [hb] at q; simp at q
                · rw [hb] at q; simp at q; rw [Nat.blt_eq] at hb; omega
              · cases q
            · cases q
          · cases q
        · obtain ⟨y, _, hy⟩ := List.mem_filterMap.1 q
          exact slot y hy
      | tail _ h => exact mkDI_ok l _ x h

theorem drawInfo_ok {ops : Array Oper} (h : (drawInfo ops.toList).length = ops.toList.length) (hne : drawInfo ops.toList ≠ []) : (∀ x ∈ drawInfo ops.toList, ops[x.j]? = some x.o ∧ x.kd = okind x.o.op ∧ ∀ s ∈ x.rs, s < 65536) ∧ disOk (newsIn (drawInfo ops.toList)) [] (drawInfo ops.toList) = true := by
  unfold drawInfo at h hne ⊢
  dsimp only at h hne ⊢
  generalize hc : (Nat.beq (mkDI ops.toList (ahead ops.toList) (plan ops.toList ops.toList.length []) 0).length ops.toList.length && disOk (newsIn (mkDI ops.toList (ahead ops.toList) (plan ops.toList ops.toList.length []) 0)) [] (mkDI ops.toList (ahead ops.toList) (plan ops.toList ops.toList.length []) 0)) = c at h hne ⊢
  cases c with
  | false => exact absurd rfl hne
  | true =>
    rw [Bool.and_eq_true] at hc
    rw [cond_true]
    exact ⟨fun x hx => mkDI_ok _ _ x hx, hc.2⟩

theorem sok_of {m : Nat} {ops : Array Oper} {A B : List Rec} {r : Rec} (h1 : ops[r.x.j]? = some r.x.o ∧ r.x.kd = okind r.x.o.op ∧ ∀ s ∈ r.x.rs, s < 65536) (h : diOk m (A.map Rec.x) r.x (B.map Rec.x) = true) : SOk m ops A r B := by
  unfold diOk at h
  simp only [Bool.and_eq_true] at h
  obtain ⟨⟨⟨⟨⟨⟨q1, q2⟩, q3⟩, q4⟩, q5⟩, q6⟩, q7⟩ := h
  refine ⟨h1.1, h1.2.1, fun y hy => ?_, fun e he hb => ?_, fun l hl => ?_, fun hk y hy hk' => ?_, fun s hs y hy hd => ?_, fun s hs y hy hd => ?_, h1.2.2, fun d hd y hy => ?_, fun hk => ?_⟩
  · have := List.all_eq_true.1 q2 y.x (List.mem_map_of_mem hy)
    simpa using this
  · have := List.all_eq_true.1 q3 e he
    rw [hb, Bool.not_true, Bool.false_or, List.any_eq_true] at this
    obtain ⟨z, hz, e1⟩ := this
    obtain ⟨y, hy, rfl⟩ := List.mem_map.1 hz
    exact ⟨y, hy, by simpa using e1⟩
  · have := List.all_eq_true.1 q4 l hl
    rw [List.any_eq_true] at this
    obtain ⟨e, he, e1⟩ := this
    simp only [Bool.and_eq_true, Bool.or_eq_true, List.any_eq_true] at e1
    obtain ⟨e2, e3⟩ := e1
    refine ⟨e, he, e2, ?_⟩
    rcases e3 with e3 | ⟨z, hz, e4, e5⟩
    · exact .inl (by simpa using e3)
    · obtain ⟨y, hy, rfl⟩ := List.mem_map.1 hz
      exact .inr ⟨y, hy, by simpa using e4, by simpa using e5⟩
  · have hnot : (r.x.kd == .pure || r.x.kd == .new) = false := by rcases hk with h | h <;> rw [h] <;> decide
    rw [hnot, Bool.false_or] at q5
    have := List.all_eq_true.1 q5 y.x (List.mem_map_of_mem hy)
    have hnot2 : (y.x.kd == .pure || y.x.kd == .read) = false := by rcases hk' with h | h <;> rw [h] <;> decide
    rw [hnot2, Bool.false_or] at this
    simpa using this
  · have := List.all_eq_true.1 q6 s hs
    rw [Bool.and_eq_true] at this
    have := List.all_eq_true.1 this.1 y.x (List.mem_map_of_mem hy)
    rw [hd] at this
    simpa using this
  · have := List.all_eq_true.1 q6 s hs
    rw [Bool.and_eq_true] at this
    have := List.all_eq_true.1 this.2 y.x (List.mem_map_of_mem hy)
    rw [hd] at this
    simpa using this
  · rw [hd] at q7
    have := List.all_eq_true.1 q7 y.x (List.mem_map_of_mem hy)
    simpa using this
  · rw [hk] at q1
    have hnot : ((OKind.new) != .new) = false := by decide
    rw [hnot, Bool.false_or, Bool.and_eq_true, Nat.blt_eq] at q1
    refine ⟨q1.1, fun y hy hk' => ?_⟩
    have := List.all_eq_true.1 q1.2 y.x (List.mem_map_of_mem hy)
    rw [hk', hnot, Bool.false_or] at this
    simpa using this

theorem drawK_ok (hm : P.follows .mixedOrders = true) {G n : Nat} {call : CallF} (hcall : CallsOk P G call) : DrawOk P G n call := by
  intro id ops t σ k res h
  have h' : ifb (Nat.beq (drawInfo ops.toList).length ops.toList.length) (drawAll P G n call ops.toList (drawInfo ops.toList)) (fun _ _ _ => none) t σ k = some res := h
  cases hl : Nat.beq (drawInfo ops.toList).length ops.toList.length
  · rw [hl] at h'; cases h'
  rw [hl, ifb_true] at h'
  have hl := Nat.eq_of_beq_eq_true hl
  unfold drawAll at h'
  obtain ⟨h3, h4⟩ := ifb_eq_some h'
  obtain ⟨recs, σN, q1, q2, q3, q4⟩ := drawGo_ok (P := P) (t0 := t) hcall (drawInfo ops.toList) [] t _ [] k res h4 rfl (fun y hy => by cases hy)
  simp only [List.nil_append] at q3 q4
  have hfree := laterFree_ok _ h3
  have hget : ({ t := σ.t, next := σ.next + newsIn (drawInfo ops.toList) } : AHeap).get = σ.get := rfl
  have H : Setting P G n ops σ.next (newsIn (drawInfo ops.toList)) t { t := σ.t, next := σ.next + newsIn (drawInfo ops.toList) } σN recs := by
    refine ⟨⟨q3⟩, fun A r B e => ?_, q1, ?_, fun y hy ky => ?_, rfl⟩
    · have hne : drawInfo ops.toList ≠ [] := by rw [← q2, e]; simp
      obtain ⟨p1, p2⟩ := drawInfo_ok hl hne
      refine sok_of (p1 r.x (by rw [← q2, e]; simp)) ?_
      have := disOk_split _ [] (A.map Rec.x) r.x (B.map Rec.x) p2 (by rw [← q2, e]; simp)
      simpa using this
    · have := congrArg List.length q2
      simp only [List.length_map] at this
      rw [this, hl]; simp
    · rw [hget]; exact hfree y.x (by rw [← q2]; exact List.mem_map_of_mem hy) ky
  have hnext := chain_next H.all recs [] [] (by simp) H.chain
  have hnext : σ.next + newsIn (drawInfo ops.toList) ≤ σN.next := hnext
  refine ⟨tOf t recs, σN, q4, by omega, fun ε a w Q he hf hg hfr hK => wp_region_any hm ?_⟩
  refine any_ok H (n0 := σ.next) (ε0 := ε) (g0 := σ.get) (w0 := w) (Nat.le_refl _) hK ops.size (Array.replicate ops.size false) (fun _ => False) [] recs { t := σ.t, next := σ.next + newsIn (drawInfo ops.toList) } ε a _ (fun k => ?_) (by simp) ?_ (Nat.le_refl _) ?_
  · constructor
    · exact fun h => h.elim
    · intro h
      rw [Array.getElem?_replicate] at h
      split at h
      · cases h
      · cases h
  · simp
  · have hX : XS σ.next (fun _ => False) recs = fun _ => none := by
      funext b
      cases e : XS σ.next (fun _ => False) recs b with
      | none => rfl
      | some x => obtain ⟨y, _, _, _, h, _⟩ := XS_some e; exact h.elim
    refine ⟨rfl, .nil, q1, .inl rfl, (fun y hy => by cases hy), fun _ _ _ h => h, fun _ _ h => h.elim, H.free, ?_, hf.size, hf.defers, fun s v hs hES => ?_, fun y hy ky _ => ?_, fun b hb1 hb2 => hfr b ?_ hb2, hg⟩
    · have : gS σ.next (fun _ => False) recs { t := σ.t, next := σ.next + newsIn (drawInfo ops.toList) } = σ.get := by
        unfold gS
        rw [hX]
        funext b
        rw [ovr_none rfl]
        rfl
      rw [this]
      exact (Step.draw σ.next he).widen (Nat.le_refl _) (by omega)
    · rcases hES with ⟨y, _, _, h, _⟩ | ⟨_, h⟩
      · exact h.elim
      · exact hf.slot s v hs h
    · have := H.nm_lt hy ky
      exact hfr _ (by omega) (by omega)
    · have hb1 : σ.next + newsIn (drawInfo ops.toList) ≤ b := hb1
      omega

/-- THE ENGINE IS SOUND. -/
theorem eval_ok (hm : P.follows .mixedOrders = true) {G : Nat} {orc : Orc} (ho : OrcOk P G orc) {L N : Nat} {f : FuncId} {args : List Value} {σ : AHeap} {v : Value} {σ' : AHeap} (h : evalTop P G orc L N f args σ = some (v, σ')) :
    CallOk P G f args σ v σ' := evalTop_ok ho (fun _ _ hc => drawK_ok hm hc) h
end Go.Eng
