/- A closed fact of the program. No condition. -/
import Derived.Test.YtgfhbomiljhjpaaGreatDoorRows
import Derived.JoinedOf
namespace Go.Proofs.YtgfhbomiljhjpaaGreatDoor
open Go
theorem jf7 : (Tryz.pinned.checked.prog.stops == []) = true := by kernel_rfl
end Go.Proofs.YtgfhbomiljhjpaaGreatDoor
