/- The law MachineKnown answers true: the tied card (conditions: the row's own: the listed variables begin as the program's text lays them). -/
import Derived.Test.YthaimknbmaeomaaGreatDoorHeld
import Derived.Test.YthaimknbmaeomaaGreatDoorTie
import Derived.Test.YthaimknbmaeomaaGreatDoorCards
namespace Go.Proofs.YthaimknbmaeomaaGreatDoor
open Go Go.Proofs.Vai Go.RowKit
theorem card_holds : Rows.MachineKnownCardSaid :=
  Claim7.holds_tied_plain_at .later [] [.data, .data, .data, .data, .listed, .data, .pinned] true (true, "112820bd7f7b9a18f005cb6687bb3fcb270f0702fa0bccee78b4431ec7cb7200") true holds (fun _ h => by cases h) (by kernel_rfl) (fun _ h => by cases h) machineKnown_row_tie rfl ⟨rfl, rfl⟩ (by kernel_rfl) rfl
    (fun f fn hf hfn => by
      obtain rfl : f = 3 := Option.some.inj ((show Tryz.prog.funcNamed "chaperon/chaperonlaw27.MachineKnown" = some 3 by kernel_rfl).symm.trans hf) |>.symm
      obtain rfl : fn = Tryz.f3 := (Option.some.inj (Tryz.func3.symm.trans hfn)).symm
      exact ⟨by kernel_rfl, fun j t ht => by
        rw [show Tryz.f3.params = #[] by kernel_rfl] at ht
        simp at ht⟩)
    (by kernel_rfl)
end Go.Proofs.YthaimknbmaeomaaGreatDoor
