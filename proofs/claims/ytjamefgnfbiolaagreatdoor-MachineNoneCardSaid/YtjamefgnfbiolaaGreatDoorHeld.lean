/- The law MachineNone answers true: its row (conditions: the row's own). -/
import Derived.Test.YtjamefgnfbiolaaGreatDoorLift
import Derived.Test.YtjamefgnfbiolaaGreatDoorJf1
import Derived.Test.YtjamefgnfbiolaaGreatDoorJf2
import Derived.Test.YtjamefgnfbiolaaGreatDoorJf3
import Derived.Test.YtjamefgnfbiolaaGreatDoorJf4
import Derived.Test.YtjamefgnfbiolaaGreatDoorJf5
import Derived.Test.YtjamefgnfbiolaaGreatDoorJf6
import Derived.Test.YtjamefgnfbiolaaGreatDoorJf7
import Derived.Test.YtjamefgnfbiolaaGreatDoorJf8
namespace Go.Proofs.YtjamefgnfbiolaaGreatDoor
open Go Go.Proofs.Vai Go.RowKit
theorem closed : joinedFacts Tryz.pinned.checked.prog 3 Tryz.f3 Rows.machineNoneSpec Rows.machineNoneRow = true := by
  unfold joinedFacts
  rw [jf1, jf2, jf3, jf4, jf5, jf6, jf7, jf8]
  kernel_rfl
theorem holds : Rows.MachineNoneSaid :=
  OpenClaim.holds_of_wide 3 Tryz.f3 rfl rfl rfl rfl rfl rfl rfl ⟨rfl, rfl, rfl, rfl, rfl⟩ rfl rfl rfl rfl rfl (by kernel_rfl) Tryz.func3 closed
    (of_decide_eq_true (by kernel_rfl)) (by unfold Func.isWrapper; first | (rw [if_pos (by decide +kernel)]; kernel_rfl) | (rw [if_neg (by decide +kernel)]; exact ⟨rfl, rfl⟩))
    (fun os started H enc _ => lifted os started H enc)
end Go.Proofs.YtjamefgnfbiolaaGreatDoor
