/- The law MachineNone answers true: the tied card (conditions: the row's own: the listed variables begin as the program's text lays them). -/
import Derived.Test.YtjamefgnfbiolaaGreatDoorHeld
import Derived.Test.YtjamefgnfbiolaaGreatDoorCf1
import Derived.Test.YtjamefgnfbiolaaGreatDoorCf2
import Derived.Test.YtjamefgnfbiolaaGreatDoorTie
import Derived.Test.YtjamefgnfbiolaaGreatDoorCards
namespace Go.Proofs.YtjamefgnfbiolaaGreatDoor
open Go Go.Proofs.Vai Go.RowKit
theorem want0 : Tryz.pinned.checked.prog.wantsStandIn 3 = false := by kernel_rfl
theorem card_holds : Rows.MachineNoneCardSaid :=
  Claim7.holds_tied_plain_at .later [] [.data, .data, .data, .data, .listed, .data, .pinned] true (true, "6a94aee5049867254b26d57309c0a97803df17d82457846b4755d1dce05aeeee") true holds (fun _ h => by cases h) (by kernel_rfl) (fun _ h => by cases h) machineNone_row_tie rfl ⟨rfl, rfl⟩ (by kernel_rfl) rfl
    (fun f fn hf hfn => by
      obtain rfl : f = 3 := Option.some.inj ((show Tryz.prog.funcNamed "chaperon/chaperonlaw27.MachineNone" = some 3 by kernel_rfl).symm.trans hf) |>.symm
      obtain rfl : fn = Tryz.f3 := (Option.some.inj (Tryz.func3.symm.trans hfn)).symm
      exact ⟨cf1, fun j t ht => by
        rw [show Tryz.f3.params = #[3] by kernel_rfl] at ht
        match j, ht with
        | 0, ht => cases ht; exact want0
        | j + 1, ht => simp at ht⟩)
    cf2
end Go.Proofs.YtjamefgnfbiolaaGreatDoor
