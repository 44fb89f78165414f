/- A closed fact of the row: its cell unfollowed is what the program forces. No condition. -/
import Derived.Test.YtjamefgnfbiolaaGreatDoorRows
namespace Go.Proofs.YtjamefgnfbiolaaGreatDoor
open Go
theorem jf2 : (Rows.machineNoneRow.unfollowed == Tryz.pinned.checked.prog.unfollowed 3) = true := by kernel_rfl
end Go.Proofs.YtjamefgnfbiolaaGreatDoor
