/- A closed fact of the row: its cell inPlace is what the program forces. No condition. -/
import Derived.Test.YtgfhbomiljhjpaaGreatDoorRows
namespace Go.Proofs.YtgfhbomiljhjpaaGreatDoor
open Go
theorem jf1 : (Rows.verifyDeadRow.inPlace == Tryz.pinned.checked.prog.inPlace 5) = true := by kernel_rfl
end Go.Proofs.YtgfhbomiljhjpaaGreatDoor
