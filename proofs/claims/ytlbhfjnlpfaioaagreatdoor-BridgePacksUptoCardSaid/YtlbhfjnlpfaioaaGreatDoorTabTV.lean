/- What the law asks at the end. -/
import Derived.Test.YtlbhfjnlpfaioaaGreatDoorTabTO
import Derived.Test.YtlbhfjnlpfaioaaGreatDoorTabTB
import Derived.Test.YtlbhfjnlpfaioaaGreatDoorTabTC
import Derived.Test.YtlbhfjnlpfaioaaGreatDoorTabTD
namespace Go.Proofs.YtlbhfjnlpfaioaaGreatDoor
open Go Go.Eng
noncomputable def orcAll (l : List PTbl) : Orc := fun f => ifb (Nat.beq f 91) (some asOrc) (ifb (Nat.beq f 97) (some cloneOrc) (ifb (Nat.beq f 98) (some colOrc) (orcOf l f)))
theorem orcAll_ok {l : List PTbl} (hl : ∀ e ∈ l, e.Ok Tryz.prog 7) : OrcOk Tryz.prog 7 (orcAll l) := fun f h hh => by
  have hh' : ifb (Nat.beq f 91) (some asOrc) (ifb (Nat.beq f 97) (some cloneOrc) (ifb (Nat.beq f 98) (some colOrc) (orcOf l f))) = some h := hh
  cases hc : Nat.beq f 91
  · rw [hc, ifb_false] at hh'
    cases hd : Nat.beq f 97
    · rw [hd, ifb_false] at hh'
      cases hk : Nat.beq f 98
      · rw [hk] at hh'; exact orcOf_ok l hl f h hh'
      · rw [hk] at hh'
        obtain rfl := Option.some.inj (show some colOrc = some h from hh')
        obtain rfl := Nat.eq_of_beq_eq_true hk
        exact fun args σ v σ' h => colOrc_ok h
    · rw [hd] at hh'
      obtain rfl := Option.some.inj (show some cloneOrc = some h from hh')
      obtain rfl := Nat.eq_of_beq_eq_true hd
      exact fun args σ v σ' h => cloneOrc_ok h
  · rw [hc] at hh'
    obtain rfl := Option.some.inj (show some asOrc = some h from hh')
    obtain rfl := Nat.eq_of_beq_eq_true hc
    exact fun args σ v σ' h => asOrc_ok h
def allNeed7 : List (Nat × List Value) := (1, [hV]) :: allNeed
theorem allNeedOk : needOk 7 allNeed7 = true := by kernel_rfl
def tLives : List (List Value × Value) := [([], .bool true)]
set_option maxRecDepth 100000 in
theorem lives0 : runTbl Tryz.prog 7 (orcAll o3) 100000 50 16 allNeed7 10 tLives = true := by kernel_rfl
def pLives : PTbl := ⟨10, allNeed7, tLives⟩
theorem pLives_ok : pLives.Ok Tryz.prog 7 := ⟨allNeedOk, runTbl_ok mixed G_le (orcAll_ok o3_ok) (by decide) allNeedOk tLives lives0⟩
def o4 : List PTbl := [pLives]
theorem o4_ok : ∀ e ∈ o4, e.Ok Tryz.prog 7 := fun e he => by
  simp only [o4, List.mem_cons, List.not_mem_nil, or_false] at he
  subst he; exact pLives_ok
end Go.Proofs.YtlbhfjnlpfaioaaGreatDoor
