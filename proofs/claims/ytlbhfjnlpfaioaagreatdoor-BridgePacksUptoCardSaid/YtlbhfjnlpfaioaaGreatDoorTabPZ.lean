/- Proved: moneyer/moneyerlaw30.BridgePacks answers true and leaves its arguments as they were, for every x, data and p whose readings are together of bulk at most 1048576 (the tied card BridgePacksUptoCardSaid, the second form). Conditions: the given row's own: that bound; the three listed package variables start as the program's text lays them (the card ties them). -/
import Derived.Test.YtlbhfjnlpfaioaaGreatDoorTabP13
import Derived.Test.YtlbhfjnlpfaioaaGreatDoorTabPK
import Derived.Test.YtlbhfjnlpfaioaaGreatDoorTabPM
import Derived.Test.YtlbhfjnlpfaioaaGreatDoorRows
import Derived.Test.YtlbhfjnlpfaioaaGreatDoorTie
import Derived.Test.YtlbhfjnlpfaioaaGreatDoorCards
namespace Go.Proofs.YtlbhfjnlpfaioaaGreatDoor
open Go Go.Eng Go.ChangeShapes Go.WideShapes Go.ChangeAt Go.RowKit

/-- THE TIED CARD. -/
theorem bridgePacksUpto_card_holds : Rows.BridgePacksUptoCardSaid :=
  Claim7.holds_tied_plain_at .later [] [.handle, .data, .data] true (true, "3bd34a57a911344065be99a3bcceb5c68040ae55eec5caabc75de999de299ce5") true
    bridgePacksUpto_holds (fun _ h => by cases h) bridgePacksUpto_wf (fun _ h => by cases h) bridgePacksUpto_row_tie rfl ⟨rfl, rfl⟩ bridgePacksUpto_main rfl
    (fun f fn hf hfn => by
      obtain rfl : f = 3 := Option.some.inj (bridgePacksUpto_fn.symm.trans hf) |>.symm
      obtain rfl : fn = Tryz.f3 := (Option.some.inj (Tryz.func3.symm.trans hfn)).symm
      exact ⟨bridgePacksUpto_looks, fun j t ht => by
        rw [Tryz.params3] at ht
        refine noStand ?_
        match j, ht with
        | 0, ht => exact .inl (by simpa using ht.symm)
        | 1, ht => exact .inr (.inl (by simpa using ht.symm))
        | 2, ht => exact .inr (.inr (by simpa using ht.symm))
        | j + 3, ht => simp at ht⟩)
    bridgePacksUpto_goes
#print axioms bridgePacksUpto_card_holds
end Go.Proofs.YtlbhfjnlpfaioaaGreatDoor
