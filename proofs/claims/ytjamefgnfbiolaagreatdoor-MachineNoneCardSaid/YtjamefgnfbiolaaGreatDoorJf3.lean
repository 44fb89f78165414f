/- A closed fact of the row: its cell recurses is what the program forces. No condition. -/
import Derived.Test.YtjamefgnfbiolaaGreatDoorRows
namespace Go.Proofs.YtjamefgnfbiolaaGreatDoor
open Go
theorem jf3 : (Rows.machineNoneRow.recurses == Tryz.pinned.checked.prog.recurses 3) = true := by kernel_rfl
end Go.Proofs.YtjamefgnfbiolaaGreatDoor
