/- A closed fact of the row: its cell inPlace is what the program forces. No condition. -/
import Derived.Test.YtmlmbfkfkkbdmaaGreatDoorRows
namespace Go.Proofs.YtmlmbfkfkkbdmaaGreatDoor
open Go
theorem jf1 : (Rows.watchKnownRow.inPlace == Tryz.pinned.checked.prog.inPlace 3) = true := by kernel_rfl
end Go.Proofs.YtmlmbfkfkkbdmaaGreatDoor
