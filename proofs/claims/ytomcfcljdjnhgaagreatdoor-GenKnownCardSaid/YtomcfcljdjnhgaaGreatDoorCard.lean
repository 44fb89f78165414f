/- The law GenKnown answers true: the tied card (conditions: the row's own: the listed variables begin as the program's text lays them). -/
import Derived.Test.YtomcfcljdjnhgaaGreatDoorHeld
import Derived.Test.YtomcfcljdjnhgaaGreatDoorCf1
import Derived.Test.YtomcfcljdjnhgaaGreatDoorCf2
import Derived.Test.YtomcfcljdjnhgaaGreatDoorTie
import Derived.Test.YtomcfcljdjnhgaaGreatDoorCards
namespace Go.Proofs.YtomcfcljdjnhgaaGreatDoor
open Go Go.Proofs.Vai Go.RowKit
theorem card_holds : Rows.GenKnownCardSaid :=
  Claim7.holds_tied_plain_at .later [] [.data, .handle, .listed, .data, .pinned] true (true, "74577142c74e218da00ae51847c9ed014117ed1eb3a4d2379e9612b0632a9491") true holds (fun _ h => by cases h) (by kernel_rfl) (fun _ h => by cases h) genKnown_row_tie rfl ⟨rfl, rfl⟩ (by kernel_rfl) rfl
    (fun f fn hf hfn => by
      obtain rfl : f = 4 := Option.some.inj ((show Tryz.prog.funcNamed "chaperon/chaperonlaw23.GenKnown" = some 4 by kernel_rfl).symm.trans hf) |>.symm
      obtain rfl : fn = Tryz.f4 := (Option.some.inj (Tryz.func4.symm.trans hfn)).symm
      exact ⟨cf1, fun j t ht => by
        rw [show Tryz.f4.params = #[] by kernel_rfl] at ht
        simp at ht⟩)
    cf2
end Go.Proofs.YtomcfcljdjnhgaaGreatDoor
