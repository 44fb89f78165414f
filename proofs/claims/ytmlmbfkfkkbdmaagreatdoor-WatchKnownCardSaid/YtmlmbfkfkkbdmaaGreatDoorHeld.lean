/- The law WatchKnown answers true: its row (conditions: the row's own). -/
import Derived.Test.YtmlmbfkfkkbdmaaGreatDoorLift
import Derived.Test.YtmlmbfkfkkbdmaaGreatDoorJf1
import Derived.Test.YtmlmbfkfkkbdmaaGreatDoorJf2
import Derived.Test.YtmlmbfkfkkbdmaaGreatDoorJf3
import Derived.Test.YtmlmbfkfkkbdmaaGreatDoorJf4
namespace Go.Proofs.YtmlmbfkfkkbdmaaGreatDoor
open Go Go.Proofs.Vai Go.RowKit
theorem closed : joinedFacts Tryz.pinned.checked.prog 3 Tryz.f3 Rows.watchKnownSpec Rows.watchKnownRow = true := by
  unfold joinedFacts
  rw [jf1, jf2, jf3, jf4]
  kernel_rfl
theorem holds : Rows.WatchKnownSaid :=
  OpenClaim.holds_of_wide 3 Tryz.f3 rfl rfl rfl rfl rfl rfl rfl ⟨rfl, rfl, rfl, rfl, rfl⟩ rfl rfl rfl rfl rfl (by kernel_rfl) Tryz.func3 closed
    (of_decide_eq_true (by kernel_rfl)) (by unfold Func.isWrapper; first | (rw [if_pos (by decide +kernel)]; kernel_rfl) | (rw [if_neg (by decide +kernel)]; exact ⟨rfl, rfl⟩))
    (fun os started H enc _ => lifted os started H enc)
end Go.Proofs.YtmlmbfkfkkbdmaaGreatDoor
