/- The law GenKnown answers true: its row (conditions: the row's own). -/
import Derived.Test.YtomcfcljdjnhgaaGreatDoorLift
import Derived.Test.YtomcfcljdjnhgaaGreatDoorJf1
import Derived.Test.YtomcfcljdjnhgaaGreatDoorJf2
import Derived.Test.YtomcfcljdjnhgaaGreatDoorJf3
import Derived.Test.YtomcfcljdjnhgaaGreatDoorJf4
import Derived.Test.YtomcfcljdjnhgaaGreatDoorJf5
import Derived.Test.YtomcfcljdjnhgaaGreatDoorJf6
import Derived.Test.YtomcfcljdjnhgaaGreatDoorJf7
import Derived.Test.YtomcfcljdjnhgaaGreatDoorJf8
namespace Go.Proofs.YtomcfcljdjnhgaaGreatDoor
open Go Go.Proofs.Vai Go.RowKit
theorem closed : joinedFacts Tryz.pinned.checked.prog 4 Tryz.f4 Rows.genKnownSpec Rows.genKnownRow = true := by
  unfold joinedFacts
  rw [jf1, jf2, jf3, jf4, jf5, jf6, jf7, jf8]
  kernel_rfl
theorem holds : Rows.GenKnownSaid :=
  OpenClaim.holds_of_wide 4 Tryz.f4 rfl rfl rfl rfl rfl rfl rfl ⟨rfl, rfl, rfl, rfl, rfl⟩ rfl rfl rfl rfl rfl (by kernel_rfl) Tryz.func4 closed
    (of_decide_eq_true (by kernel_rfl)) (by unfold Func.isWrapper; first | (rw [if_pos (by decide +kernel)]; kernel_rfl) | (rw [if_neg (by decide +kernel)]; exact ⟨rfl, rfl⟩))
    (fun os started H enc _ => lifted os started H enc)
end Go.Proofs.YtomcfcljdjnhgaaGreatDoor
