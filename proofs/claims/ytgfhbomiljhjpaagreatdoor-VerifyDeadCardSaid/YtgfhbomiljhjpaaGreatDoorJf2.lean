/- A closed fact of the row: its cell unfollowed is what the program forces. No condition. -/
import Derived.Test.YtgfhbomiljhjpaaGreatDoorRows
namespace Go.Proofs.YtgfhbomiljhjpaaGreatDoor
open Go
theorem jf2 : (Rows.verifyDeadRow.unfollowed == Tryz.pinned.checked.prog.unfollowed 5) = true := by kernel_rfl
end Go.Proofs.YtgfhbomiljhjpaaGreatDoor
