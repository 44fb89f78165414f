/- A closed fact of the card. No condition. -/
import Derived.Test.YtgfhbomiljhjpaaGreatDoorRows
import GoSem.ClaimSeven
namespace Go.Proofs.YtgfhbomiljhjpaaGreatDoor
open Go
theorem cf1 : false = Tryz.pinned.checked.prog.looks [] := by kernel_rfl
end Go.Proofs.YtgfhbomiljhjpaaGreatDoor
