/- A closed fact of the row: its cell recurses is what the program forces. No condition. -/
import Derived.Test.YtgfhbomiljhjpaaGreatDoorRows
namespace Go.Proofs.YtgfhbomiljhjpaaGreatDoor
open Go
theorem jf3 : (Rows.verifyDeadRow.recurses == Tryz.pinned.checked.prog.recurses 5) = true := by kernel_rfl
end Go.Proofs.YtgfhbomiljhjpaaGreatDoor
