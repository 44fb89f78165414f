/- A closed fact of the card. No condition. -/
import Derived.Test.YtmlmbfkfkkbdmaaGreatDoorRows
import GoSem.ClaimSeven
namespace Go.Proofs.YtmlmbfkfkkbdmaaGreatDoor
open Go
theorem cf2 : false = Rows.watchKnownRow.goesBy Tryz.pinned.checked.prog := by kernel_rfl
end Go.Proofs.YtmlmbfkfkkbdmaaGreatDoor
