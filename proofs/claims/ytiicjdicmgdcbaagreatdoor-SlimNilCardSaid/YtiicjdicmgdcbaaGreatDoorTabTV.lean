/- What the law asks at the end. -/
import Derived.Test.YtiicjdicmgdcbaaGreatDoorTabTO
import Derived.Test.YtiicjdicmgdcbaaGreatDoorTabTB
namespace Go.Proofs.YtiicjdicmgdcbaaGreatDoor
open Go Go.Eng
noncomputable def orcAll (l : List PTbl) : Orc := fun f => ifb (Nat.beq f 45) (some asOrc) (orcOf l f)
theorem orcAll_ok {l : List PTbl} (hl : ∀ e ∈ l, e.Ok Tryz.prog 6) : OrcOk Tryz.prog 6 (orcAll l) := fun f h hh => by
  have hh' : ifb (Nat.beq f 45) (some asOrc) (orcOf l f) = some h := hh
  cases hc : Nat.beq f 45
  · rw [hc] at hh'; exact orcOf_ok l hl f h hh'
  · rw [hc] at hh'
    obtain rfl := Option.some.inj (show some asOrc = some h from hh')
    obtain rfl := Nat.eq_of_beq_eq_true hc
    exact fun args σ v σ' h => asOrc_ok h
def allNeed7 : List (Nat × List Value) := (1, [hV]) :: allNeed
theorem allNeedOk : needOk 6 allNeed7 = true := by kernel_rfl
def tLives : List (List Value × Value) := [([], .bool true)]
set_option maxRecDepth 100000 in
theorem lives0 : runTbl Tryz.prog 6 (orcAll o3) 100000 50 15 allNeed7 12 tLives = true := by kernel_rfl
def pLives : PTbl := ⟨12, allNeed7, tLives⟩
theorem pLives_ok : pLives.Ok Tryz.prog 6 := ⟨allNeedOk, runTbl_ok mixed G_le (orcAll_ok o3_ok) (by decide) allNeedOk tLives lives0⟩
def o4 : List PTbl := [pLives]
theorem o4_ok : ∀ e ∈ o4, e.Ok Tryz.prog 6 := fun e he => by
  simp only [o4, List.mem_cons, List.not_mem_nil, or_false] at he
  subst he; exact pLives_ok
end Go.Proofs.YtiicjdicmgdcbaaGreatDoor
