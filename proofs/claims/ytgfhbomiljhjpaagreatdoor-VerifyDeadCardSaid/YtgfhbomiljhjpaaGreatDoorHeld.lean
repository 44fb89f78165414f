/- The law VerifyDead answers true: its row (conditions: the row's own). -/
import Derived.Test.YtgfhbomiljhjpaaGreatDoorLift
import Derived.Test.YtgfhbomiljhjpaaGreatDoorJf1
import Derived.Test.YtgfhbomiljhjpaaGreatDoorJf2
import Derived.Test.YtgfhbomiljhjpaaGreatDoorJf3
import Derived.Test.YtgfhbomiljhjpaaGreatDoorJf4
import Derived.Test.YtgfhbomiljhjpaaGreatDoorJf5
import Derived.Test.YtgfhbomiljhjpaaGreatDoorJf6
import Derived.Test.YtgfhbomiljhjpaaGreatDoorJf7
import Derived.Test.YtgfhbomiljhjpaaGreatDoorJf8
namespace Go.Proofs.YtgfhbomiljhjpaaGreatDoor
open Go Go.Proofs.Sai Go.RowKit
theorem closed : joinedFacts Tryz.pinned.checked.prog 5 Tryz.f5 Rows.verifyDeadSpec Rows.verifyDeadRow = true := by
  unfold joinedFacts
  rw [jf1, jf2, jf3, jf4, jf5, jf6, jf7, jf8]
  kernel_rfl
theorem holds : Rows.VerifyDeadSaid :=
  OpenClaim.holds_of_wide 5 Tryz.f5 rfl rfl rfl rfl rfl rfl rfl ⟨rfl, rfl, rfl, rfl, rfl⟩ rfl rfl rfl rfl rfl (by kernel_rfl) Tryz.func5 closed
    (of_decide_eq_true (by kernel_rfl)) (by unfold Func.isWrapper; first | (rw [if_pos (by decide +kernel)]; kernel_rfl) | (rw [if_neg (by decide +kernel)]; exact ⟨rfl, rfl⟩))
    (fun os started H enc _ => lifted os started H enc)
end Go.Proofs.YtgfhbomiljhjpaaGreatDoor
