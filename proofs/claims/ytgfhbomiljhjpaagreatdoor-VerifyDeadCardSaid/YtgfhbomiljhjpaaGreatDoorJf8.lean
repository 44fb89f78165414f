/- A closed fact of the program. No condition. -/
import Derived.Test.YtgfhbomiljhjpaaGreatDoorRows
import Derived.JoinedOf
namespace Go.Proofs.YtgfhbomiljhjpaaGreatDoor
open Go
theorem jf8 : (Tryz.pinned.checked.prog.stopKnobs == []) = true := by kernel_rfl
end Go.Proofs.YtgfhbomiljhjpaaGreatDoor
