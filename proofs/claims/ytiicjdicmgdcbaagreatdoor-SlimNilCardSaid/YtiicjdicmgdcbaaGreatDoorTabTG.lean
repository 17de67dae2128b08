/- Proved: moneyer/moneyerlaw31.SlimNil answers true and leaves its arguments as they were, for every b, k and zero (the tied card SlimNilCardSaid). Conditions: the given row's own: the three listed package variables start as the program's text lays them (the card ties them). -/
import Derived.Test.YtiicjdicmgdcbaaGreatDoorTabTF
import Derived.Test.YtiicjdicmgdcbaaGreatDoorRows
import Derived.Test.YtiicjdicmgdcbaaGreatDoorTie
import Derived.Test.YtiicjdicmgdcbaaGreatDoorCards
namespace Go.Proofs.YtiicjdicmgdcbaaGreatDoor
open Go Go.Eng Go.ChangeShapes Go.WideShapes Go.ChangeAt Go.RowKit

theorem noStand {t : TypeId} (h : t = 22 ∨ t = 3 ∨ t = 4) : Tryz.prog.wantsStandIn t = false := by
  rcases h with rfl | rfl | rfl <;> kernel_rfl

/-- THE TIED CARD. -/
theorem slimNil_card_holds : Rows.SlimNilCardSaid :=
  Claim7.holds_tied_plain_at .later [] [.handle, .data, .data] true (true, "73f673a9817881b279c678be40ee003314f8c77c3e02c847855fe4ecd9efff07") true
    slimNil_holds (fun _ h => by cases h) (by kernel_rfl) (fun _ h => by cases h) slimNil_row_tie rfl ⟨rfl, rfl⟩ (by kernel_rfl) rfl
    (fun f fn hf hfn => by
      obtain rfl : f = 3 := Option.some.inj ((show Tryz.prog.funcNamed "moneyer/moneyerlaw31.SlimNil" = some 3 by kernel_rfl).symm.trans hf) |>.symm
      obtain rfl : fn = Tryz.f3 := (Option.some.inj (Tryz.func3.symm.trans hfn)).symm
      exact ⟨by kernel_rfl, fun j t ht => by
        rw [Tryz.params3] at ht
        refine noStand ?_
        match j, ht with
        | 0, ht => exact .inl (by simpa using ht.symm)
        | 1, ht => exact .inr (.inl (by simpa using ht.symm))
        | 2, ht => exact .inr (.inr (by simpa using ht.symm))
        | j + 3, ht => simp at ht⟩)
    (by kernel_rfl)
#print axioms slimNil_card_holds
end Go.Proofs.YtiicjdicmgdcbaaGreatDoor
