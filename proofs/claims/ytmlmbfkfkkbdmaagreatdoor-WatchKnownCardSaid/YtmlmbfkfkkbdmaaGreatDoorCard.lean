/- The law WatchKnown answers true: the tied card (conditions: the row's own: the listed variables begin as the program's text lays them). -/
import Derived.Test.YtmlmbfkfkkbdmaaGreatDoorHeld
import Derived.Test.YtmlmbfkfkkbdmaaGreatDoorCf1
import Derived.Test.YtmlmbfkfkkbdmaaGreatDoorCf2
import Derived.Test.YtmlmbfkfkkbdmaaGreatDoorTie
import Derived.Test.YtmlmbfkfkkbdmaaGreatDoorCards
namespace Go.Proofs.YtmlmbfkfkkbdmaaGreatDoor
open Go Go.Proofs.Vai Go.RowKit
theorem card_holds : Rows.WatchKnownCardSaid :=
  Claim7.holds_tied_plain_at .later [] [.data, .data, .data, .data, .listed, .data, .pinned] true (true, "1d40ef56055c5bb49dcf80da6c386ceb89d572d0a0a3abc772cb27e5b7be167e") true holds (fun _ h => by cases h) (by kernel_rfl) (fun _ h => by cases h) watchKnown_row_tie rfl ⟨rfl, rfl⟩ (by kernel_rfl) rfl
    (fun f fn hf hfn => by
      obtain rfl : f = 3 := Option.some.inj ((show Tryz.prog.funcNamed "chaperon/chaperonlaw29.WatchKnown" = some 3 by kernel_rfl).symm.trans hf) |>.symm
      obtain rfl : fn = Tryz.f3 := (Option.some.inj (Tryz.func3.symm.trans hfn)).symm
      exact ⟨cf1, fun j t ht => by
        rw [show Tryz.f3.params = #[] by kernel_rfl] at ht
        simp at ht⟩)
    cf2
end Go.Proofs.YtmlmbfkfkkbdmaaGreatDoor
