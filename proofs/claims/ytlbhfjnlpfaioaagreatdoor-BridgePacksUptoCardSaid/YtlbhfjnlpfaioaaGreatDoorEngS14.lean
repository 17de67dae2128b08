/- The engine: from a law's row to its call: arguments that nobody looks at; package variables out of the row's condition. -/
import Derived.Test.YtlbhfjnlpfaioaaGreatDoorEngS13
import Derived.ProofKit
import Derived.LaidMore
import Derived.OpenShut
import Derived.Stop.Joined
namespace Go.Eng
open Go
variable {P : Program}

noncomputable def baseEnv (G : Nat) (opq : Nat → Value) (one : ∀ i, oneV (opq i) = true) : Env := ⟨fun b => if b < G then some (some ⟨b, 0, none⟩, 0) else none, opq, one⟩

/-- A run out of package variables alone, its arguments whatever they are: what it says, and that it leaves what was there. -/
theorem openCall_of {G : Nat} {need : List (Nat × List Value)} {f : FuncId} {args : List Value} {v : Value} {next : Nat} {σ' : AHeap} (_hG : G ≤ lim) (hn : G ≤ next) (hneed : needOk G need = true) (hv : closedD 8 v = true)
    (h : CallOk P G f args (roH next need) v σ') (opq : Nat → Value) (one : ∀ i, oneV (opq i) = true) {cargs : List Value} (ha : RepL (baseEnv G opq one) args cargs) {w : World}
    (hw : ∀ x ∈ need, ∀ i u, x.2[i]? = some u → w.cell? ⟨x.1, i, none⟩ = some u) (hsz : ∀ x ∈ need, x.1 < w.heap.size) : Calls P f ⟨cargs⟩ w fun
    | .returned cv, w' => cv = v ∧ Quiet w w'
    | _, _ => False := by
  have hneed' : ∀ x ∈ need, x.1 < G ∧ x.2.all (idV G 8) = true := fun x hx => by
    have := List.all_eq_true.1 hneed x hx
    rw [Bool.and_eq_true, Nat.blt_eq] at this
    exact this
  have hget := roH_get next need
  have hm : ∀ b, b < G → (baseEnv G opq one).m b = some (some ⟨b, 0, none⟩, 0) := fun b hb => by simp [baseEnv, hb]
  have he : Emb (baseEnv G opq one) (roH next need).get w := by
    refine ⟨fun b x hx => ?_, fun b b' x x' a a' n n' _ hx _ ho => ?_⟩
    · obtain ⟨c, h1, rfl⟩ := hget b x hx
      obtain ⟨h2, h3⟩ := hneed' _ h1
      refine .inr ⟨⟨b, 0, none⟩, 0, hm b h2, hsz _ h1, fun i u hi => ⟨u, ?_, ?_⟩, trivial⟩
      · have := hw _ h1 i u hi
        simpa using this
      · exact rep_idV (G := G) (fun g hg => ⟨0, hm g hg⟩) 8 u (List.all_eq_true.1 h3 u (List.mem_of_getElem? hi))
    · obtain ⟨c, h1, rfl⟩ := hget b x hx
      cases ho
  refine (h.2 _ cargs w he ha (fun g hg => ⟨0, hm g hg⟩) (fun b h1 _ => by
    rw [roH_next] at h1
    have : ¬ b < G := by omega
    simp [baseEnv, this])).mono fun e w' hR => ?_
  cases e with
  | returned cv =>
    obtain ⟨ε', h1, h2⟩ := hR
    refine ⟨closed_same hv h1, h2.os, h2.tape, h2.output, h2.size, fun k hk => h2.frame k hk ?_⟩
    rintro ⟨b, x, a, n, hx, ho, _, _⟩
    obtain ⟨c, _, rfl⟩ := hget b x hx
    cases ho
  | panicked c => exact hR.elim
  | outgrown => exact hR.elim

theorem Quiet.below {w w' : World} (h : Quiet w w') : Go.RowKit.Below w.heap.size w w' := ⟨h.os, h.tape, h.output, h.size, h.heap⟩

/-- a run that says true -/
noncomputable def saysTrue (P : Program) (G : Nat) (orc : Orc) (L N : Nat) (next : Nat) (need : List (Nat × List Value)) (f : FuncId) (args : List Value) : Bool :=
  match evalTop P G orc L N f args (roH next need) with
  | some (.bool true, _) => true
  | _ => false
theorem saysTrue_ok (hm : P.follows .mixedOrders = true) {G : Nat} {orc : Orc} (ho : OrcOk P G orc) {L N next : Nat} {need : List (Nat × List Value)} {f : FuncId} {args : List Value} (h : saysTrue P G orc L N next need f args = true) :
    ∃ σ', CallOk P G f args (roH next need) (.bool true) σ' := by
  unfold saysTrue at h
  split at h
  · rename_i σ' hev; exact ⟨σ', eval_ok hm ho hev⟩
  · cases h

section
variable {H : Type} {enc : TypeId × Value → H} {w : World} {base : Nat} {spare : Nat → Bool} {held : Bool}

theorem int_of_trod {t : TypeId} {k : IntKind} {fuel : Nat} {cs : List Value} {z : Int} {y : DataW H × List MemPlace} (ht : P.underlying t = some (.int k)) (h : DataW.trod enc P w base spare held fuel t cs = some y) (hy : y.1 = .lit (.int k z)) : cs = [.int k z] := by
  obtain ⟨n, e1, e2, _⟩ := DataW.trod_int ht h
  rw [e2] at hy
  simp at hy
  rw [e1, hy]

/-- an array of whole numbers, off its datum -/
theorem ints_of_trod {t e : TypeId} {k : IntKind} {n fuel : Nat} {cs : List Value} {zs : List Int} {ps : List MemPlace} (ht : P.underlying t = some (.array n e)) (he : P.underlying e = some (.int k)) (hc : P.cellsOf e = 1)
    (h : DataW.trod enc P w base spare held fuel t cs = some (DataW.agg (zs.map fun z => DataW.lit (Lit.int k z)), ps)) : ∀ (i : Nat) (z : Int), zs[i]? = some z → cs[i]? = some (Value.int k z) := by
  obtain ⟨xs, m, rfl, hx, hlen, hn, hel⟩ := DataW.trod_array ht h
  simp only [Prod.mk.injEq, DataW.agg.injEq] at hx
  intro i z hi
  have hmap : (xs.map (·.1))[i]? = some (DataW.lit (Lit.int k z)) := by rw [← hx.1]; simp [hi]
  rw [List.getElem?_map] at hmap
  obtain ⟨y, hy, hy2⟩ := Option.map_eq_some_iff.1 hmap
  have hin : i < n := by
    rcases Nat.lt_or_ge i xs.length with q | q
    · omega
    · rw [List.getElem?_eq_none q] at hy; cases hy
  have := hel i hin
  rw [hy, hc, Nat.mul_one] at this
  have := int_of_trod he this hy2
  have h0 : ((cs.drop i).take 1)[0]? = some (.int k z) := by rw [this]; rfl
  simpa using h0

/-- a struct's parts, off its datum -/
theorem parts_of_trod {t : TypeId} {fs : Array Field} {fuel : Nat} {cs : List Value} {ds : List (DataW H)} {ps : List MemPlace} (ht : P.underlying t = some (.struct fs)) (h : DataW.trod enc P w base spare held fuel t cs = some (DataW.agg ds, ps)) :
    ∃ m, ∀ (i : Nat) (f : Field) (d : DataW H), fs[i]? = some f → ds[i]? = some d → ∃ q, DataW.trod enc P w base spare held m f.type ((cs.drop f.offset).take (P.cellsOf f.type)) = some (d, q) := by
  obtain ⟨xs, m, rfl, hx, hlen, hn, hel⟩ := DataW.trod_struct ht h
  simp only [Prod.mk.injEq, DataW.agg.injEq] at hx
  refine ⟨m, fun i f d hf hd => ?_⟩
  have hd : (xs.map (·.1))[i]? = some d := by rw [← hx.1]; exact hd
  rw [List.getElem?_map] at hd
  obtain ⟨y, hy, hy2⟩ := Option.map_eq_some_iff.1 hd
  exact ⟨y.2, by rw [hel i f hf, hy, ← hy2]⟩
end
end Go.Eng
