/- maps.Clone, as an oracle of the engine. -/
import Derived.Test.YtlbhfjnlpfaioaaGreatDoorTabT0
import Derived.WalkKit
import Derived.Shelf.SlMaps.Clone
namespace Go.Proofs.YtlbhfjnlpfaioaaGreatDoor
open Go.RowKit Go.Extern.Stop Go.Stop Go.Extern

set_option maxRecDepth 100000 in
set_option maxHeartbeats 2000000 in
theorem clone_calls (b : Nat) (es : Array MapEntry) (clock : Nat) (w : World) (hb : w.heap[b]? = some (.map es clock)) :
    Calls Tryz.prog 97 #[.map (some b)] w fun e w' => e = .returned (.map (some w.heap.size)) ∧ w' = w.alloc (.map es clock) := by
  have hq := fun w => run_eql_map_nil_sl (P := Tryz.prog) w 136 _ _ (some b) Tryz.underlying136
  go_enter Tryz.func97, Tryz.ntmps97
  go_wp2
  rw [run_callFunc_extern Tryz.func168 (by kernel_rfl) (by kernel_rfl) (by kernel_rfl) (e := Extern.MapsClone.clone) (by kernel_rfl), run_maps_clone_sl w 136 hb]
  simp only [Result.andThen]
  rw [Oper.upon_value]
  go_wp2
  rw [run_typeAssert_map_sl _ 136 20 _ _ _ Tryz.underlying136]
  simp only [Result.andThen]
  rw [Oper.upon_value]
  go_wp2
  go_ret
  exact ⟨rfl, rfl⟩
end Go.Proofs.YtlbhfjnlpfaioaaGreatDoor

namespace Go.Proofs.YtlbhfjnlpfaioaaGreatDoor
open Go Go.Eng
noncomputable def cloneOrc (args : List Value) (σ : AHeap) : Option (Value × AHeap) := match args with
  | [.map (some b)] => Go.Eng.mapIn σ b fun es clock => Go.Eng.push σ (.map es clock) fun m σ' => some (.map (some m), σ')
  | _ => none
theorem cloneOrc_ok {args : List Value} {σ σ' : AHeap} {v : Value} (h : cloneOrc args σ = some (v, σ')) : CallOk Tryz.prog 7 97 args σ v σ' := by
  unfold cloneOrc at h
  split at h
  · rename_i b
    obtain ⟨es, clock, hb, h1⟩ := Go.Eng.mapIn_some h
    obtain ⟨σ1, e1, e2, e3⟩ := Go.Eng.push_some h1
    obtain ⟨rfl, rfl⟩ := Prod.mk.inj (Option.some.inj e3)
    refine ⟨by omega, fun ε cargs w he ha hg hf => ?_⟩
    cases ha with
    | cons g1 ha =>
      cases ha
      cases g1 with
      | map hm =>
        rename_i a c
        obtain ⟨a', n', es', q1, q2, q3⟩ := he.ok b _ hb
        rw [hm] at q1
        obtain ⟨qa, _⟩ := Prod.mk.inj (Option.some.inj q1)
        obtain rfl := Option.some.inj qa
        have hfr : ε.m σ.next = none := hf _ (Nat.le_refl _) (by omega)
        refine (clone_calls a.block es' clock w q2).mono fun e w' ⟨r1, r2⟩ => ?_
        subst r1; subst r2
        have hs := Step.new_block (w := w) he hfr (.map es' clock) 0 (.map es clock) rfl ⟨_, _, es', Env.upd_self _ _ _, by simp, q3.mono (Env.upd_le hfr)⟩
        rw [← e1] at hs
        refine ⟨ε.upd σ.next (some ⟨w.heap.size, 0, none⟩, 0), Rep.map (a := ⟨w.heap.size, 0, none⟩) (Env.upd_self _ _ _), ?_⟩
        rw [e2]; exact hs
  · cases h
end Go.Proofs.YtlbhfjnlpfaioaaGreatDoor
