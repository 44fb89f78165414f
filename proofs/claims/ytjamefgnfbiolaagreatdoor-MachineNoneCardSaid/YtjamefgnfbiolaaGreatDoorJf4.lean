/- A closed fact of the row: its cell named is what the program forces. No condition. -/
import Derived.Test.YtjamefgnfbiolaaGreatDoorRows
namespace Go.Proofs.YtjamefgnfbiolaaGreatDoor
open Go
theorem jf4 : (Rows.machineNoneRow.named == Tryz.pinned.checked.prog.varsNamed 3) = true := by kernel_rfl
end Go.Proofs.YtjamefgnfbiolaaGreatDoor
