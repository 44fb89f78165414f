/- A closed fact of the row: its cell named is what the program forces. No condition. -/
import Derived.Test.YtgfhbomiljhjpaaGreatDoorRows
namespace Go.Proofs.YtgfhbomiljhjpaaGreatDoor
open Go
theorem jf4 : (Rows.verifyDeadRow.named == Tryz.pinned.checked.prog.varsNamed 5) = true := by kernel_rfl
end Go.Proofs.YtgfhbomiljhjpaaGreatDoor
