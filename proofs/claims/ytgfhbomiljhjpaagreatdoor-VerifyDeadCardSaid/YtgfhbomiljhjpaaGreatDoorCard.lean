/- The law VerifyDead answers true: the tied card (conditions: the row's own: the listed variables begin as the program's text lays them). -/
import Derived.Test.YtgfhbomiljhjpaaGreatDoorHeld
import Derived.Test.YtgfhbomiljhjpaaGreatDoorCf1
import Derived.Test.YtgfhbomiljhjpaaGreatDoorCf2
import Derived.Test.YtgfhbomiljhjpaaGreatDoorTie
import Derived.Test.YtgfhbomiljhjpaaGreatDoorCards
namespace Go.Proofs.YtgfhbomiljhjpaaGreatDoor
open Go Go.Proofs.Sai Go.RowKit
theorem want0 : Tryz.pinned.checked.prog.wantsStandIn 27 = false := by kernel_rfl
theorem want1 : Tryz.pinned.checked.prog.wantsStandIn 3 = false := by kernel_rfl
theorem want2 : Tryz.pinned.checked.prog.wantsStandIn 45 = false := by kernel_rfl
theorem card_holds : Rows.VerifyDeadCardSaid :=
  Claim7.holds_tied_plain_at .later [] [.data, .listed, .data, .pinned] true (true, "f01ddcb1b5ffb4f27842f4474a922c1b2230233d72edb1036b6946990c34df59") false holds (fun _ h => by cases h) (by kernel_rfl) (fun _ h => by cases h) verifyDead_row_tie rfl ⟨rfl, rfl⟩ (by kernel_rfl) rfl
    (fun f fn hf hfn => by
      obtain rfl : f = 5 := Option.some.inj ((show Tryz.prog.funcNamed "chaperon/chaperonlaw25.VerifyDead" = some 5 by kernel_rfl).symm.trans hf) |>.symm
      obtain rfl : fn = Tryz.f5 := (Option.some.inj (Tryz.func5.symm.trans hfn)).symm
      exact ⟨cf1, fun j t ht => by
        rw [pars] at ht
        match j, ht with
        | 0, ht => cases ht; exact want0
        | 1, ht => cases ht; exact want1
        | 2, ht => cases ht; exact want2
        | j + 3, ht => simp at ht⟩)
    cf2
end Go.Proofs.YtgfhbomiljhjpaaGreatDoor
