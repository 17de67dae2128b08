/- Proved: moneyer/moneyerlaw30.BridgeNil answers true and leaves its arguments as they were, for every b, k and zero (the tied card BridgeNilCardSaid). Conditions: the given row's own: the three listed package variables start as the program's text lays them (the card ties them). -/
import Derived.Test.YtlbhfjnlpfaioaaGreatDoorTabTF
import Derived.Test.YtlbhfjnlpfaioaaGreatDoorTabGK
import Derived.Test.YtlbhfjnlpfaioaaGreatDoorTabGL
import Derived.Test.YtlbhfjnlpfaioaaGreatDoorTabGM
import Derived.Test.YtlbhfjnlpfaioaaGreatDoorTabGN
import Derived.Test.YtlbhfjnlpfaioaaGreatDoorRows
import Derived.Test.YtlbhfjnlpfaioaaGreatDoorTie
import Derived.Test.YtlbhfjnlpfaioaaGreatDoorCards
namespace Go.Proofs.YtlbhfjnlpfaioaaGreatDoor
open Go Go.Eng Go.ChangeShapes Go.WideShapes Go.ChangeAt Go.RowKit

/-- THE TIED CARD. -/
theorem bridgeNil_card_holds : Rows.BridgeNilCardSaid :=
  Claim7.holds_tied_plain_at .later [] [.handle, .data, .data] true (true, "3bd34a57a911344065be99a3bcceb5c68040ae55eec5caabc75de999de299ce5") true
    bridgeNil_holds (fun _ h => by cases h) bridgeNil_wf (fun _ h => by cases h) bridgeNil_row_tie rfl ⟨rfl, rfl⟩ bridgeNil_main rfl
    (fun f fn hf hfn => by
      obtain rfl : f = 4 := Option.some.inj (bridgeNil_fn.symm.trans hf) |>.symm
      obtain rfl : fn = Tryz.f4 := (Option.some.inj (Tryz.func4.symm.trans hfn)).symm
      exact ⟨bridgeNil_looks, fun j t ht => by
        rw [Tryz.params4] at ht
        refine noStand ?_
        match j, ht with
        | 0, ht => exact .inl (by simpa using ht.symm)
        | 1, ht => exact .inr (.inl (by simpa using ht.symm))
        | 2, ht => exact .inr (.inr (by simpa using ht.symm))
        | j + 3, ht => simp at ht⟩)
    bridgeNil_goes
#print axioms bridgeNil_card_holds
end Go.Proofs.YtlbhfjnlpfaioaaGreatDoor
