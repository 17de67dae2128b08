/- errors.As as an oracle of the engine. -/
import Derived.Test.YtlbhfjnlpfaioaaGreatDoorTabTA
import Derived.Test.YtlbhfjnlpfaioaaGreatDoorTabT0
namespace Go.Proofs.YtlbhfjnlpfaioaaGreatDoor
open Go Go.Eng

def hV : Value := .iface 367 (.agg ⟨[.pointer (some ⟨6, 173, none⟩)]⟩)
def asNeed : List (Nat × List Value) := [(1, [hV])]
theorem asNeedOk : needOk 7 asNeed = true := by kernel_rfl

noncomputable def asOrc (args : List Value) (σ : AHeap) : Option (Value × AHeap) := match args with
  | [.nilIface, _] => some (.bool false, σ)
  | [.iface t (.int k n), .iface u (.pointer (some ⟨b, off, none⟩))] =>
    ifb (Nat.beq t 28 && Nat.beq u 191 && decide (k = .i64) && holdsB σ asNeed) (Go.Eng.cellsIn σ b fun c kd => ifb (writable kd && hasLen (off + 1) c) (some (.bool true, σ.set b (some (.cells (splice off [.int .i64 n] c) kd)))) none) none
  | _ => none

theorem quiet_alloc (w : World) (o : Obj) : Quiet w (w.alloc o) := ⟨rfl, rfl, rfl, by show w.heap.size ≤ (w.heap.push o).size; simp, fun k hk => by
  show (w.heap.push o)[k]? = _
  rw [Array.getElem?_push, if_neg (by omega)]⟩
theorem Quiet_trans {a b c : World} (h : Quiet a b) (k : Quiet b c) : Quiet a c := ⟨k.os.trans h.os, k.tape.trans h.tape, k.output.trans h.output, Nat.le_trans h.size k.size, fun i hi => (k.heap i (Nat.lt_of_lt_of_le hi h.size)).trans (h.heap i hi)⟩

theorem asOrc_ok {args : List Value} {σ σ' : AHeap} {v : Value} (h : asOrc args σ = some (v, σ')) : CallOk Tryz.prog 7 91 args σ v σ' := by
  unfold asOrc at h
  split at h
  · rename_i x
    obtain ⟨rfl, rfl⟩ := Prod.mk.inj (Option.some.inj h)
    refine ⟨Nat.le_refl _, fun ε cargs w he ha hg _ => ?_⟩
    cases ha with
    | cons h1 ha => cases ha with
      | cons h2 ha =>
        cases ha; cases h1
        refine (as_nil _ w).mono fun e w' ⟨e1, e2⟩ => ?_
        subst e1; subst e2
        exact ⟨ε, .bool _, .refl _ he⟩
  · rename_i t k n u b off
    obtain ⟨h1, hh1⟩ := ifb_eq_some h
    simp only [Bool.and_eq_true, decide_eq_true_eq] at h1
    obtain ⟨⟨⟨h2, h3⟩, rfl⟩, h4⟩ := h1
    obtain rfl := Nat.eq_of_beq_eq_true h2
    obtain rfl := Nat.eq_of_beq_eq_true h3
    obtain ⟨c, kd, hb, hh2⟩ := Go.Eng.cellsIn_some hh1
    obtain ⟨h5, hh3⟩ := ifb_eq_some hh2
    rw [Bool.and_eq_true] at h5
    obtain ⟨h6, h7⟩ := h5
    have h7 := hasLen_le _ _ h7
    obtain ⟨rfl, rfl⟩ := Prod.mk.inj (Option.some.inj hh3)
    refine ⟨Nat.le_refl _, fun ε cargs w he ha hg _ => ?_⟩
    cases ha with
    | cons g1 ha => cases ha with
      | cons g2 ha =>
        cases ha
        cases g1 with
        | iface g1 =>
          obtain rfl := g1.int_inv
          cases g2 with
          | iface g2 =>
            obtain ⟨a, m, hm, rfl⟩ := g2.pt_inv
            obtain ⟨hlt, hcl, hko⟩ := he.cells hb hm
            -- the variable errors.errorType
            obtain ⟨kx, hx⟩ := holdsB_ok asNeed h4 (1, [hV]) (.head _)
            obtain ⟨cx, hcx⟩ := hg 1 (by decide)
            obtain ⟨_, hclx, _⟩ := he.cells hx hcx
            obtain ⟨cv, e1, e2⟩ := hclx 0 hV rfl
            have := idV_rep hg 8 hV cv rfl e2
            subst this
            -- the target's cell
            obtain ⟨old, hold⟩ : ∃ old, w.cell? ⟨a.block, a.off + off, none⟩ = some old := by
              obtain ⟨cv, q1, _⟩ := hcl off c[off] (by simp)
              exact ⟨cv, q1⟩
            have hfz : w.frozen? ⟨a.block, a.off + off, none⟩ = false := by
              cases kd with
              | ro => cases h6
              | own => exact hko off (by omega)
              | grow es => exact (hko.2 off (by have := hko.1; omega)).2
            refine (as_hit n ⟨a.block, a.off + off, none⟩ old w (by simpa [hV] using e1) hold hfz).mono fun e w' ⟨q1, q2⟩ => ?_
            subst q1
            have quiet := Quiet_trans (Quiet_trans (Quiet_trans (quiet_alloc w (.cells #[.pointer (some ⟨a.block, a.off + off, none⟩)] 191)) (quiet_alloc _ (.cells #[.pointer (some ⟨6, 191, none⟩), .pointer (some ⟨w.heap.size, 0, none⟩), .int .u64 150] 300))) (quiet_alloc _ (.cells #[.pointer (some ⟨6, 191, none⟩), .pointer (some ⟨w.heap.size, 0, none⟩), .int .u64 150] 300))) (quiet_alloc _ (.cells #[.int .i64 n] 28))
            refine ⟨ε, .bool _, ?_⟩
            subst q2
            have s1 := quiet.step σ.next he
            obtain ⟨_, s2⟩ := Step.write (P := Tryz.prog) s1.emb hb h6 hm (vs := [.int .i64 n]) (cvs := [.int .i64 n]) off (by simpa using h7) (.cons (.int _ _) .nil) rfl
            exact s1.trans s2
  · cases h
end Go.Proofs.YtlbhfjnlpfaioaaGreatDoor
