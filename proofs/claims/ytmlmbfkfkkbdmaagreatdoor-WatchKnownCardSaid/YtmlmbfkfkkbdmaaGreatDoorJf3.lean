/- A closed fact of the row: its cell recurses is what the program forces. No condition. -/
import Derived.Test.YtmlmbfkfkkbdmaaGreatDoorRows
namespace Go.Proofs.YtmlmbfkfkkbdmaaGreatDoor
open Go
theorem jf3 : (Rows.watchKnownRow.recurses == Tryz.pinned.checked.prog.recurses 3) = true := by kernel_rfl
end Go.Proofs.YtmlmbfkfkkbdmaaGreatDoor
