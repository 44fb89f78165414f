/- A closed fact of the row: its cell inPlace is what the program forces. No condition. -/
import Derived.Test.YtjamefgnfbiolaaGreatDoorRows
namespace Go.Proofs.YtjamefgnfbiolaaGreatDoor
open Go
theorem jf1 : (Rows.machineNoneRow.inPlace == Tryz.pinned.checked.prog.inPlace 3) = true := by kernel_rfl
end Go.Proofs.YtjamefgnfbiolaaGreatDoor
