/- slices.Collect over (*tree.Tree).up at a chain of one block. -/
import Derived.Test.YtlbhfjnlpfaioaaGreatDoorTabT0
import Derived.Test.YtlbhfjnlpfaioaaGreatDoorEngZ1
import Derived.RangeFuncNested
import Derived.RangeFuncBound
import Derived.RangeFuncCalls
import Derived.RangeFuncLeaves
import Derived.Shelf.Abstract
import Derived.Shelf.RegionOpen
import Derived.WalkKit
import Derived.OwnWalkIn
import Derived.TacticsInMore
import Derived.LoopNIn
import Derived.LoopIn
import Derived.Maps.AppendAt
namespace Go.Proofs.YtlbhfjnlpfaioaaGreatDoor
open Go.RowKit Go.Shelf
attribute [local go_sem] Oper.semAt_some

theorem tdInfo3 : (Tryz.prog.info? 3).map (fun i => (i.zero, i.size, i.bytes)) = some (some (.int .i64 0), 1, 8) := by kernel_rfl

set_option maxRecDepth 100000 in
set_option maxHeartbeats 4000000 in
theorem append_calls (nb no tb to sb0 s0 sb so len cap : Nat) (w : World) (n : Nat) (hn : 6 ≤ n)
    (hcn : w.cell? ⟨nb, no, none⟩ = some (.int .i64 0)) (hfn : w.frozen? ⟨nb, no, none⟩ = false) (hct : w.cell? ⟨tb, to, none⟩ = some (.pointer (some ⟨sb0, s0, none⟩)))
    (hcs : w.cell? ⟨sb0, s0, none⟩ = some (.slice (some ⟨sb, so, none⟩) len cap)) (hlen : 1 ≤ len) (hcp : w.cell? ⟨sb, so + 99, none⟩ = some (.int .i64 (-1)))
    (_hb1 : nb ≠ tb) (_hb2 : nb ≠ sb0) (_hb3 : nb ≠ sb) :
    CallsIn Fence.wide n Tryz.prog 169 #[.slice none 0 0, .func (.func 170) #[] #[.pointer (some ⟨nb, no, none⟩), .pointer (some ⟨tb, to, none⟩)]] w fun e w' => ∃ g cp cur, e = .returned (.slice (some ⟨g, 0, none⟩) 1 cp) ∧ w.heap.size ≤ g ∧
      w'.heap[g]? = some (.cells cur 3 (0, 0)) ∧ 1 ≤ cp ∧ cur.size = cp ∧ cur.toList.take 1 = [.int .i64 0] ∧ Below w.heap.size (w.setCell ⟨nb, no, none⟩ (.int .i64 (-1))) w' := by
  have h1 : 1 ≤ n := by omega
  obtain ⟨i0, hi, hz0, hz1, hz2⟩ := info_parts tdInfo3
  refine callsIn_of_wp_marks Tryz.func169 rfl trivial ?_ rfl
  simp only [Tryz.ntmps169, List.size_toArray, List.length_cons, List.length_nil, Nat.reduceAdd, Nat.reduceSub, Array.replicate_succ, Array.replicate_zero, List.push_toArray, List.append_toArray, List.nil_append, List.cons_append]
  gi_wp2
  refine Go.Eng.wpIn_rangeFunc_J rfl h1 rfl trivial (enters_of Tryz.func170 (by kernel_rfl) rfl) ?_
  intro fn hFn rec W1 hrec hW1
  obtain ⟨W0, hW0⟩ : ∃ W0, w.alloc (Obj.cells #[Value.slice none 0 0] 129) = W0 := ⟨_, rfl⟩
  have hs0 : W0.heap.size = w.heap.size + 1 := by rw [← hW0]; simp
  have hB0 : Boxed W0 w.heap.size 129 (.slice none 0 0) := by rw [← hW0]; exact Boxed.new w _ _
  have hw0 : Below w.heap.size w W0 := by rw [← hW0]; exact (Below.refl _ w).alloc (Nat.le_refl _) _
  rw [hW0] at hW1 ⊢
  rw [hs0] at ⊢
  have hold : ∀ k, k < W0.heap.size → W1.heap[k]? = W0.heap[k]? := fun k hk => by
    rw [hW1]; exact (Below.heap_alloc _ _ k (by simp; omega)).trans (Below.heap_alloc _ _ k hk)
  have hw1 : Below w.heap.size w W1 := by rw [hW1]; exact (hw0.alloc hw0.size _).alloc (by have := hw0.size; simp; omega) _
  have hs1 : W1.heap.size = w.heap.size + 3 := by rw [hW1]; simp [hs0]
  have hB1 : Boxed W1 w.heap.size 129 (.slice none 0 0) := (hold _ (by omega)).trans hB0
  have hD1 : W1.heap[w.heap.size + 1]? = some (.deferred (some [])) := by
    rw [hW1, ← hs0]; exact (Below.heap_alloc _ _ _ (by simp)).trans (World.alloc_heap_new W0 _)
  have hL1 : W1.heap[w.heap.size + 2]? = some (.loop (rec .ready none)) := by
    rw [hW1]; have := World.alloc_heap_new (W0.alloc (.deferred (some []))) (.loop (rec .ready none)); rw [World.size_alloc, hs0] at this; exact this
  clear hW1
  have hnb : nb < w.heap.size := World.block_lt_of_cell? w _ hcn
  have htb : tb < w.heap.size := World.block_lt_of_cell? w _ hct
  have hsb0 : sb0 < w.heap.size := World.block_lt_of_cell? w _ hcs
  have hsb : sb < w.heap.size := World.block_lt_of_cell? w _ hcp
  have hcn1 : W1.cell? ⟨nb, no, none⟩ = some (.int .i64 0) := (World.cell?_of_block (hw1.block nb hnb)).trans hcn
  have hfn1 : W1.frozen? ⟨nb, no, none⟩ = false := (World.frozen?_of_block (hw1.block nb hnb)).trans hfn
  -- the iterator
  refine callsIn_of_wp Tryz.func170 rfl trivial ?_ rfl
  simp only [Tryz.ntmps170, List.size_toArray, List.length_cons, List.length_nil, Nat.reduceAdd, Nat.reduceSub, Array.replicate_succ, Array.replicate_zero, List.push_toArray, List.append_toArray, List.nil_append, List.cons_append]
  have hy := run_yield (P := Tryz.prog) (args := #[.int .i64 0]) hL1 (by rw [hrec]; rfl)
  rw [hrec] at hy
  dsimp only at hy
  gi_wp2
  refine wpIn_loop_rounds 2 ?_
  rw [roundsIn_succ]
  gi_wp2
  let R : Ending → World → Prop := fun e W2 => e = .returned (.bool true) ∧ ∃ g cp, Boxed W2 w.heap.size 129 (.slice (some ⟨g, 0, none⟩) 1 cp) ∧ W2.ownsRow w.heap.size 3 1 (.slice (some ⟨g, 0, none⟩) 1 cp) 1 [.int .i64 0] ∧
    W2.heap[w.heap.size + 1]? = some (.deferred (some [])) ∧ W2.heap[w.heap.size + 2]? = some (.loop (rec .ready none)) ∧ Below w.heap.size w W2
  refine ⟨fun _ => by omega, RoundIn.mono (R := R) (roundIn_of_wpIn hFn ?_) ?_⟩
  · gi_wp2
    have hbr := run_beginRound (P := Tryz.prog) hL1 (by rw [hrec])
    refine ⟨_, hbr, ?_⟩
    clear hbr
    obtain ⟨W2, hW2⟩ : ∃ W2, W1.putObj (w.heap.size + 2) (.loop { rec .ready none with state := .busy }) = W2 := ⟨_, rfl⟩
    rw [hW2]
    have hl : w.heap.size + 2 < W1.heap.size := by omega
    have hb2' : Boxed W2 w.heap.size 129 (.slice none 0 0) := by rw [← hW2]; exact (World.putObj_heap_other (by omega)).trans hB1
    have hD2 : W2.heap[w.heap.size + 1]? = some (.deferred (some [])) := by rw [← hW2]; exact (World.putObj_heap_other (by omega)).trans hD1
    have hL2 : W2.heap[w.heap.size + 2]? = some (.loop { rec .ready none with state := .busy }) := by rw [← hW2]; exact World.putObj_heap_same hl
    have hw2 : Below w.heap.size w W2 := by rw [← hW2]; exact hw1.grown (grownBy_putObj' _ _ _) hw1.size (fun k e => by cases e; omega)
    clear hW2
    have hc2 := hb2'.cell
    have hrow2 : W2.ownsRow w.heap.size 3 1 (.slice none 0 0) 0 [] := World.ownsRow_nil _ _ _ _
    have hs2 := hw2.size
    gi_wp2_with (gi_at_builtin; refine wpListIn_append_own _ rfl _ _ 129 rfl w.heap.size 3 i0 (.int .i64 0) 1 8 Tryz.underlying129 hi hz0 hz1 hz2 rfl (by decide) _ _ _ rfl (hrow2.alloc _) ⟨W2.heap.size, 0, none⟩ 1 1 [.int .i64 0] rfl rfl (cell_one_new _ _ _) (by simp [Value.oneCell']) (by decide) (by decide) (by simp; omega) ?_; intro v' w3 hown' hgrow _; obtain ⟨g', cap', rfl⟩ := ownsRow_succ hown'; obtain ⟨hv1, hv2, hr2, hk2, hb2''⟩ := hb2'.appended (by decide) hrow2 hs2 (Nat.le_refl _) hown' hgrow; have hc3 := hv1.cell; have hf3 := hv1.frozen)
    have hL3 := hk2.same _ _ hL2 rfl
    have hD3 := hk2.same _ _ hD2 rfl
    have he := run_endRound (P := Tryz.prog) none hL3
    refine ⟨_, _, he, rfl, g', cap', (World.putObj_heap_other (by omega)).trans hv2, ownsRow_putObj hr2 _ hL3 rfl, (World.putObj_heap_other (by omega)).trans hD3, ?_, (hw2.trans hb2'').grown (grownBy_putObj' _ _ _) (hw2.trans hb2'').size (fun k e => by cases e; omega)⟩
    have hl3 := (Array.getElem?_eq_some_iff.1 hL3).1
    rw [World.putObj_heap_same hl3]
    simp [hrec]
  · rintro e W2 ⟨rfl, g, cp, hb, hrow, hD, hL, hw⟩
    have hcn2 : W2.cell? ⟨nb, no, none⟩ = some (.int .i64 0) := (World.cell?_of_block (hw.block nb hnb)).trans hcn
    have hfn2 : W2.frozen? ⟨nb, no, none⟩ = false := (World.frozen?_of_block (hw.block nb hnb)).trans hfn
    have hct2 : W2.cell? ⟨tb, to, none⟩ = some (.pointer (some ⟨sb0, s0, none⟩)) := (World.cell?_of_block (hw.block tb htb)).trans hct
    have hcs2 : W2.cell? ⟨sb0, s0, none⟩ = some (.slice (some ⟨sb, so, none⟩) len cap) := (World.cell?_of_block (hw.block sb0 hsb0)).trans hcs
    have hcp2 : W2.cell? ⟨sb, so + 99, none⟩ = some (.int .i64 (-1)) := (World.cell?_of_block (hw.block sb hsb)).trans hcp
    gi_wp2
    clear hy
    gi_region
    have hset : ∀ k, k < w.heap.size → (W2.setCell ⟨nb, no, none⟩ (.int .i64 (-1))).drew.heap[k]? = (w.setCell ⟨nb, no, none⟩ (.int .i64 (-1))).heap[k]? := fun k hk => by
      show (W2.heap.modify nb _)[k]? = (w.heap.modify nb _)[k]?
      rw [Array.getElem?_modify, Array.getElem?_modify, hw.block k hk]
    have hoth : ∀ k, k ≠ nb → (W2.setCell ⟨nb, no, none⟩ (.int .i64 (-1))).drew.heap[k]? = W2.heap[k]? := fun k hk => Below.heap_setCell W2 ⟨nb, no, none⟩ _ k hk
    have hcn3 : (W2.setCell ⟨nb, no, none⟩ (.int .i64 (-1))).drew.cell? ⟨nb, no, none⟩ = some (.int .i64 (-1)) := World.cell?_setCell_same' W2 ⟨nb, no, none⟩ _ (by rw [hcn2]; rfl)
    have hg3 : W2.grownBy (W2.setCell ⟨nb, no, none⟩ (.int .i64 (-1))).drew (some nb) := ⟨rfl, rfl, rfl, by show W2.heap.size ≤ (W2.heap.modify nb _).size; simp, fun k _ hk => hoth k (fun e => hk (by rw [e]))⟩
    have hz3 : W2.heap.size ≤ (W2.setCell ⟨nb, no, none⟩ (.int .i64 (-1))).drew.heap.size := hg3.size
    obtain ⟨W3, hW3⟩ : ∃ W3, (W2.setCell ⟨nb, no, none⟩ (.int .i64 (-1))).drew = W3 := ⟨_, rfl⟩
    rw [hW3] at hset hoth hcn3 hg3 hz3 ⊢
    have ho3 : W3.os = w.os ∧ W3.tape = w.tape ∧ W3.output = w.output := by rw [← hW3]; exact ⟨hw.os, hw.tape, hw.output⟩
    clear hW3 hcn2 hfn2 hct2 hcs2 hcp2
    have hz2 := hw.size
    have hb3 : Boxed W3 w.heap.size 129 (.slice (some ⟨g, 0, none⟩) 1 cp) := (hoth _ (by omega)).trans hb
    have hD3 : W3.heap[w.heap.size + 1]? = some (.deferred (some [])) := (hoth _ (by omega)).trans hD
    have hL3 : W3.heap[w.heap.size + 2]? = some (.loop (rec .ready none)) := (hoth _ (by omega)).trans hL
    have hr3 : W3.ownsRow w.heap.size 3 1 (.slice (some ⟨g, 0, none⟩) 1 cp) 1 [.int .i64 0] := hrow.kept hg3 (.inr (fun e => by
      have := (hrow.lt g rfl).1
      simp [Value.ownBlock] at e
      omega))
    have hcb3 := hb3.cell
    show Code.roundsIn _ _ _ _ _ _ _ _
    rw [roundsIn_succ]
    gi_wp2
    go_end0
    refine ⟨⟨_, rfl⟩, hL3, ?_⟩
    have hl3 := (Array.getElem?_eq_some_iff.1 hL3).1
    obtain ⟨W4, hW4⟩ : ∃ W4, W3.putObj (w.heap.size + 1 + 1) (.loop (rec .exhausted none)) = W4 := ⟨_, rfl⟩
    have hb4 : Boxed W4 w.heap.size 129 (.slice (some ⟨g, 0, none⟩) 1 cp) := by rw [← hW4]; exact (World.putObj_heap_other (by omega)).trans hb3
    have hD4 : W4.heap[w.heap.size + 1]? = some (.deferred (some [])) := by rw [← hW4]; exact (World.putObj_heap_other (by omega)).trans hD3
    have hr4 : W4.ownsRow w.heap.size 3 1 (.slice (some ⟨g, 0, none⟩) 1 cp) 1 [.int .i64 0] := by rw [← hW4]; exact ownsRow_putObj hr3 _ hL3 rfl
    have hg4 : W3.grownBy W4 (some (w.heap.size + 2)) := by rw [← hW4]; exact grownBy_putObj' _ _ _
    have hset4 : ∀ k, k < w.heap.size → W4.heap[k]? = (w.setCell ⟨nb, no, none⟩ (.int .i64 (-1))).heap[k]? := fun k hk => (hg4.block k (by omega) (fun e => by cases e; omega)).trans (hset k hk)
    have ho4 : W4.os = w.os ∧ W4.tape = w.tape ∧ W4.output = w.output := ⟨hg4.os.trans ho3.1, hg4.tape.trans ho3.2.1, hg4.output.trans ho3.2.2⟩
    have hz4 : w.heap.size ≤ W4.heap.size := Nat.le_trans (by omega) hg4.size
    rw [hW4]
    clear hW4 hg4
    have hcb4 := hb4.cell
    gi_wp2
    refine ⟨by simp, .inl ⟨_, _, rfl, run_takeDeferred hD4, ?_⟩⟩
    have hr5 := ownsRow_putObj hr4 (.deferred none) hD4 rfl
    have hg5 := grownBy_putObj' W4 (w.heap.size + 1) (.deferred none)
    obtain ⟨cur, hh1, hh2, hh3, hh4, hh5⟩ : ∃ cur, w.heap.size ≤ g ∧ (W4.putObj (w.heap.size + 1) (.deferred none)).heap[g]? = some (.cells cur 3 (0, 0)) ∧ 1 ≤ cp ∧ cur.size = cp ∧ cur.toList.take 1 = [.int .i64 0] := by
      rcases hr5.2 with ⟨h, _⟩ | ⟨g', cap', cur, e1, e2, e3, e4, _, e5, e6⟩
      · cases h
      · obtain ⟨e7, _, rfl⟩ := Value.slice.inj e1
        obtain ⟨rfl, _, _⟩ := Addr.mk.inj (Option.some.inj e7)
        exact ⟨cur, e2, e3, e4, by simpa using e5, by simpa using e6⟩
    refine ⟨_, results_tmp rfl _ _ _, g, cp, cur, rfl, hh1, hh2, hh3, hh4, hh5, hg5.os.trans ho4.1, hg5.tape.trans ho4.2.1, hg5.output.trans ho4.2.2, ?_, fun k hk => ?_⟩
    · show (w.heap.modify nb _).size ≤ _
      rw [Array.size_modify]
      exact Nat.le_trans hz4 hg5.size
    · exact (hg5.block k (by omega) (fun e => by cases e; omega)).trans (hset4 k hk)

set_option maxHeartbeats 2000000 in
theorem collect_calls (nb no tb to sb0 s0 sb so len cap : Nat) (w : World)
    (hcn : w.cell? ⟨nb, no, none⟩ = some (.int .i64 0)) (hfn : w.frozen? ⟨nb, no, none⟩ = false) (hct : w.cell? ⟨tb, to, none⟩ = some (.pointer (some ⟨sb0, s0, none⟩)))
    (hcs : w.cell? ⟨sb0, s0, none⟩ = some (.slice (some ⟨sb, so, none⟩) len cap)) (hlen : 1 ≤ len) (hcp : w.cell? ⟨sb, so + 99, none⟩ = some (.int .i64 (-1)))
    (hb1 : nb ≠ tb) (hb2 : nb ≠ sb0) (hb3 : nb ≠ sb) :
    Calls Tryz.prog 98 #[.func (.func 170) #[] #[.pointer (some ⟨nb, no, none⟩), .pointer (some ⟨tb, to, none⟩)]] w fun e w' => ∃ g cp cur, e = .returned (.slice (some ⟨g, 0, none⟩) 1 cp) ∧ w.heap.size ≤ g ∧
      w'.heap[g]? = some (.cells cur 3 (0, 0)) ∧ 1 ≤ cp ∧ cur.size = cp ∧ cur.toList.take 1 = [.int .i64 0] ∧ Below w.heap.size (w.setCell ⟨nb, no, none⟩ (.int .i64 (-1))) w' := by
  refine (callsIn_wide (n := 9)).1 ?_
  refine callsIn_of_wp Tryz.func98 rfl trivial ?_ rfl
  simp only [Tryz.ntmps98, List.size_toArray, List.length_cons, List.length_nil, Nat.reduceAdd, Nat.reduceSub, Array.replicate_succ, Array.replicate_zero, List.push_toArray, List.append_toArray, List.nil_append, List.cons_append]
  gi_wp2
  refine ⟨trivial, (append_calls nb no tb to sb0 s0 sb so len cap w _ (by decide) hcn hfn hct hcs hlen hcp hb1 hb2 hb3).mono ?_⟩
  rintro e w' ⟨g, cp, cur, rfl, q1, q2, q3, q4, q5, q6⟩
  gi_wp2
  go_ret
  exact ⟨g, cp, cur, rfl, q1, q2, q3, q4, q5, q6⟩
end Go.Proofs.YtlbhfjnlpfaioaaGreatDoor

namespace Go.Proofs.YtlbhfjnlpfaioaaGreatDoor
open Go Go.Eng
def isI (z : Int) : Value → Bool
  | .int .i64 n => decide (n = z)
  | _ => false
theorem isI_eq {z : Int} {v : Value} (h : isI z v = true) : v = .int .i64 z := by
  unfold isI at h
  split at h
  · rw [of_decide_eq_true h]
  · cases h

noncomputable def colOrc (args : List Value) (σ : AHeap) : Option (Value × AHeap) := match args with
  | [.func (.func f) ⟨[]⟩ ⟨[.pointer (some ⟨b, o, none⟩), .pointer (some ⟨bt, ot, none⟩)]⟩] =>
    ifb (Nat.beq f 170) (Go.Eng.cellsIn σ b fun c k => ifb (writable k) (ob (nth o c) fun v => ifb (isI 0 v)
      (Go.Eng.cellsIn σ bt fun ct _ => ob (nth ot ct) fun vt => Go.Eng.pt vt fun b1 o1 =>
        Go.Eng.cellsIn σ b1 fun c1 _ => ob (nth o1 c1) fun vs => Go.Eng.sl vs fun sb so len _ =>
        Go.Eng.cellsIn σ sb fun cs _ => ob (nth (so + 99) cs) fun vp =>
          ifb (isI (-1) vp && Nat.ble 1 len && !(Nat.beq b bt) && !(Nat.beq b b1) && !(Nat.beq b sb))
            (Go.Eng.push (σ.set b (some (.cells (splice o [.int .i64 (-1)] c) k))) (.cells [.int .i64 0] (.grow 1)) fun m σ' => some (.slice (some ⟨m, 0, none⟩) 1 (BIG + 0), σ')) none) none) none) none
  | _ => none

theorem colOrc_ok {args : List Value} {σ σ' : AHeap} {v : Value} (h : colOrc args σ = some (v, σ')) : CallOk Tryz.prog 7 98 args σ v σ' := by
  unfold colOrc at h
  split at h
  · rename_i f b o bt ot
    have hh0 := h
    obtain ⟨h1, hh1⟩ := ifb_eq_some hh0
    obtain rfl := Nat.eq_of_beq_eq_true h1
    obtain ⟨c, k, hb, hh2⟩ := Go.Eng.cellsIn_some hh1
    obtain ⟨hk, hh3⟩ := ifb_eq_some hh2
    obtain ⟨v0, hv0, hh4⟩ := ob_eq_some hh3
    obtain ⟨e0, hh5⟩ := ifb_eq_some hh4
    obtain rfl := isI_eq e0
    obtain ⟨ct, kt, hbt, hh6⟩ := Go.Eng.cellsIn_some hh5
    obtain ⟨vt, hvt, hh7⟩ := ob_eq_some hh6
    obtain ⟨b1, o1, rfl, hh8⟩ := Go.Eng.pt_some hh7
    obtain ⟨c1, k1, hb1, hh9⟩ := Go.Eng.cellsIn_some hh8
    obtain ⟨vs, hvs, hh10⟩ := ob_eq_some hh9
    obtain ⟨sb, so, len, cap, rfl, hh11⟩ := Go.Eng.sl_some hh10
    obtain ⟨cs, ks, hsb, hh12⟩ := Go.Eng.cellsIn_some hh11
    obtain ⟨vp, hvp, hh13⟩ := ob_eq_some hh12
    obtain ⟨e1, hh14⟩ := ifb_eq_some hh13
    simp only [Bool.and_eq_true, Bool.not_eq_true'] at e1
    obtain ⟨⟨⟨⟨e1', e2⟩, e3⟩, e4⟩, e5⟩ := e1
    obtain rfl := isI_eq e1'
    have hlen : 1 ≤ len := Nat.le_of_ble_eq_true e2
    have n1 : b ≠ bt := fun e => by subst e; rw [Nat.beq_refl] at e3; cases e3
    have n2 : b ≠ b1 := fun e => by subst e; rw [Nat.beq_refl] at e4; cases e4
    have n3 : b ≠ sb := fun e => by subst e; rw [Nat.beq_refl] at e5; cases e5
    rw [nth_eq] at hv0 hvt hvs hvp
    obtain ⟨σ1, f1, f2, f3⟩ := Go.Eng.push_some hh14
    obtain ⟨rfl, rfl⟩ := Prod.mk.inj (Option.some.inj f3)
    have f2' := f2
    simp only [AHeap.set] at f2'
    refine ⟨by omega, fun ε cargs w he ha hg hf => ?_⟩
    obtain ⟨h1c, rfl⟩ : ∃ x, cargs = [x] := by cases ha with | cons g ha => cases ha; exact ⟨_, rfl⟩
    cases ha with
    | cons g1 ha =>
      cases ha
      cases g1 with
      | func g1 g2 =>
        cases g1
        cases g2 with
        | cons g2 g3 => cases g3 with
          | cons g3 g4 =>
            cases g4
            obtain ⟨a, m, hm, rfl⟩ := g2.pt_inv
            obtain ⟨at', mt, hmt, rfl⟩ := g3.pt_inv
            obtain ⟨hlt, hcl, hko⟩ := he.cells hb hm
            obtain ⟨_, hclt, _⟩ := he.cells hbt hmt
            obtain ⟨cv, u1, u2⟩ := hcl o _ hv0
            obtain rfl := u2.int_inv
            obtain ⟨cvt, u3, u4⟩ := hclt ot _ hvt
            obtain ⟨a1, m1, hm1, rfl⟩ := u4.pt_inv
            obtain ⟨_, hcl1, _⟩ := he.cells hb1 hm1
            obtain ⟨cvs, u5, u6⟩ := hcl1 o1 _ hvs
            have ol : o < c.length := by
              rcases Nat.lt_or_ge o c.length with q | q
              · exact q
              · rw [List.getElem?_eq_none q] at hv0; cases hv0
            have hfz : w.frozen? ⟨a.block, a.off + o, none⟩ = false := by
              cases k with
              | ro => cases hk
              | own => exact hko o ol
              | grow es => exact (hko.2 o (by have := hko.1; omega)).2
            have hown : (ABlk.cells c k).isOwn = true := by cases k <;> first | rfl | cases hk
            obtain ⟨ad, ms, ccap, hms, rfl⟩ : ∃ ad ms ccap, ε.m sb = some (some ad, ms) ∧ cvs = .slice (some ⟨ad.block, ad.off + so, none⟩) len ccap := by
              rcases u6.slice_some with ⟨ad, ms, q1, q2 | ⟨kk, _, _, q2⟩⟩ | ⟨_, q, _⟩
              · exact ⟨ad, ms, _, q1, q2.2⟩
              · exact ⟨ad, ms, _, q1, q2⟩
              · omega
            obtain ⟨_, hcls, _⟩ := he.cells hsb hms
            obtain ⟨cvp, u7, u8⟩ := hcls (so + 99) _ hvp
            obtain rfl := u8.int_inv
            have d1 := he.inj _ _ _ _ _ _ _ _ n1 hb hbt hown hm hmt
            have d2 := he.inj _ _ _ _ _ _ _ _ n2 hb hb1 hown hm hm1
            have d3 := he.inj _ _ _ _ _ _ _ _ n3 hb hsb hown hm hms
            refine (collect_calls a.block (a.off + o) at'.block (at'.off + ot) a1.block (a1.off + o1) ad.block (ad.off + so) len ccap w u1 hfz u3 u5 hlen (by rw [Nat.add_assoc]; exact u7) d1 d2 d3).mono fun e w' hq => ?_
            obtain ⟨g, cp, cur, rfl, q1, q2, q3, q4, q5, q6⟩ := hq
            obtain ⟨_, s2⟩ := Step.write (P := Tryz.prog) he hb hk hm (vs := [.int .i64 (-1)]) (cvs := [.int .i64 (-1)]) o (show o + 1 ≤ c.length from ol) (.cons (.int _ _) .nil) rfl
            have hsz : (w.setCells a.block (a.off + o) [.int .i64 (-1)]).heap.size = w.heap.size := setCells_size _ _ _ _
            have hfr : ε.m σ.next = none := hf _ (Nat.le_refl _) (by omega)
            have hx : BlkOk (ε.upd σ.next (some ⟨g, 0, none⟩, cp)) σ.next w' (.cells [.int .i64 0] (.grow 1)) := by
              refine .inr ⟨⟨g, 0, none⟩, cp, Env.upd_self _ _ _, (Array.getElem?_eq_some_iff.1 q2).1, fun i v hi => ?_, by simpa using q3, fun i hi => ?_⟩
              · match i, hi with
                | 0, hi =>
                  obtain rfl := Option.some.inj hi
                  refine ⟨.int .i64 0, ?_, .int _ _⟩
                  have : cur[0]? = some (.int .i64 0) := by
                    rw [← Array.getElem?_toList, ← List.getElem?_take_of_lt (j := 1) (by omega), q5]; rfl
                  simp [World.cell?, q2, this]
                | i + 1, hi => simp at hi
              · have hi' : i < cur.size := by omega
                simp [World.cell?, World.frozen?, q2, hi']
            have s3 := Step.later s2.emb hfr (w' := w') (gb := g) (by rw [hsz]; exact q6) (by rw [hsz]; exact q1) cp _ rfl hx
            have hnx : (σ.set b (some (.cells (splice o [.int .i64 (-1)] c) k))).next = σ.next := rfl
            rw [hnx] at f1
            rw [← f1] at s3
            refine ⟨ε.upd σ.next (some ⟨g, 0, none⟩, cp), Rep.gslice (a := ⟨g, 0, none⟩) (c := cp) (k := 0) (Env.upd_self _ _ _) (Nat.zero_le _), ?_⟩
            rw [f2']
            exact s2.trans s3
  · cases h
end Go.Proofs.YtlbhfjnlpfaioaaGreatDoor
